import Derived.Test.YtidofnpfeibbfaaHE
set_option linter.unusedVariables false
set_option linter.unusedSimpArgs false
set_option linter.unnecessarySimpa false
set_option maxRecDepth 100000
namespace Go.Proofs.Ytidofnpfeibbfaa.M
open Go.Abs Go.RowKit
section
variable {M0 M M' : Mem} {role role' : Nat → Rj} {hs : List Nat} {cur cur' : List (Option Nat)} {gs gs' : List Gp} {ds ds' : List Dt} {h i g N : Nat} {d : Dt} {hd s : Nat} {tabs : List (List Pr)} {scr : List (List Deed)} {cl : List (Int × List Int)} {to : Int}
theorem Cps.length {vs : List (Int × SlV)} (h : Cps M vs cl) : vs.length = cl.length := by simpa using congrArg List.length h
theorem Cps.snoc {vs : List (Int × SlV)} (h : Cps M vs cl) {p : Int} {v : SlV} {xs : List Int} (hv : M.bytesAt v = some xs) : Cps M (vs ++ [(p, v)]) (cl ++ [(p, xs)]) := by
  unfold Cps at *
  rw [List.map_append, List.map_append, h, List.map_singleton, List.map_singleton, hv]
theorem help6_C (H : Hd M0 M role hs cur gs ds hd s tabs scr cl to) (hc : cur[0]? = some (some g)) (hd' : ds[g]? = some d) (hN : d.mv ≤ N) (x : Nat) :
    ∃ M', p47_4 C prog.meth (some (hd, 0)) (x : Int) M = some (.int .u64 (if x < 8 ∧ cl.length < 8 then 1 else 0), M') ∧
      Out M0 M role hs cur ds hd s tabs scr N (if x < 8 ∧ cl.length < 8 then ⟨d.B, cl ++ [((x : Int), d.B)], to⟩ else ⟨d.B, cl, to⟩) M' := by
  have hE := p47_4_eq C prog.meth (some (hd, 0)) (x : Int) M
  have hE1 := p47_6_eq C prog.meth (some (hd, 0)) (x : Int) M
  have hB := H.I.sz H.s0 hc hd'
  obtain ⟨tv, fv, cv, vs, gh, t4, f4, tl, hl, c3⟩ := H.obj
  have hlen : cv.2.1 = cl.length := by rw [← tl.length]; exact c3.now.length
  by_cases h1 : x < 8
  rotate_left
  · have q : ((x : Int) ≥ 8) := by omega
    simp only [q, decide_true, cond_true] at hE
    rw [if_neg (fun h => h1 h.1), if_neg (fun h => h1 h.1)]
    exact ⟨M, hE, Out.same H hc hd' hN⟩
  have q : ¬ ((x : Int) ≥ 8) := by omega
  simp only [int?_int, rvs, Int.reduceBEq, Int.reduceBNe, Int.cast_ofNat_Int, q, Nat.zero_add, ldL_at gh] at hE
  by_cases h2 : cl.length < 8
  rotate_left
  · have q2 : ((cv.2.1 : Int) ≥ 8) := by omega
    simp only [q2, decide_true, cond_true] at hE
    rw [if_neg (fun h => h2 h.2), if_neg (fun h => h2 h.2)]
    exact ⟨M, hE, Out.same H hc hd' hN⟩
  have q2 : ¬ ((cv.2.1 : Int) ≥ 8) := by omega
  simp only [q2, decide_false, cond_false] at hE
  rw [if_pos ⟨h1, h2⟩, if_pos ⟨h1, h2⟩]
  obtain ⟨M1, w, k1, u1, ow, fw⟩ := I_bytes H.I H.s0 hc
  rw [bytesO_at hd'] at ow
  have gh1 := u1.get gh
  have hlt := Mem.get_lt gh
  have wx : IntKind.wrap .i64 (x : Int) = (x : Int) := wrap_i64 (by omega) (by omega)
  obtain ⟨M3, k3, tl3, n3, b3, g3⟩ := Tail.push (bytes := 32) (y := ((x : Int), w)) (cs := [.int .i64 (x : Int), .sl w.1 w.2.1 w.2.2]) (tl.same (M' := M1) (fun o ho => u1.2 o (hl o ho).1)) encC2 (by omega) rfl (by omega) (fun o ho => by have := (hl o ho).1; have := u1.1; omega)
  have hne : ∀ o ∈ fpOf cv.1, o ≠ hd := fun o ho e => by
    have := (hl o ho).2.1
    rw [e, H.rh] at this; cases this
  have gh3 : M3.get hd = _ := (b3.2 hd (by have := u1.1; omega) (fun h => hne hd h rfl)).trans gh1
  obtain ⟨M4, s4, g4, n4, b4⟩ := st_at (i := 3) (vs := [.sl (some (M1.n + 1, 0)) (cv.2.1 + 1) (.unk 0)]) gh3 (by simp)
  simp only [overL_one, List.set_cons_succ, List.set_cons_zero] at g4
  have st1 : M1.still hd 3 [.sl cv.1 cv.2.1 cv.2.2] = true := still1 (by rw [ld_fix gh1]; rfl)
  obtain ⟨Ma, ea, ga, ua, na⟩ := alloc_at M1 ⟨[.int .i64 (x : Int), .sl w.1 w.2.1 w.2.2], .fixed⟩
  have st2 : (M1.alloc ⟨[.int .i64 (x : Int), .sl w.1 w.2.1 w.2.2], .fixed⟩).still hd 3 [.sl cv.1 cv.2.1 cv.2.2] = true := by
    rw [ea]; exact still1 (by rw [ld_fix (ua.get gh1)]; rfl)
  simp only [int?_int, rvs, Int.reduceBEq, Int.reduceBNe, Int.cast_ofNat_Int, Nat.zero_add, ldL_at gh, ldP_at gh, k1, wx] at hE1
  rw [k3] at hE1
  simp only [int?_int, rvs, Int.reduceBEq, Int.reduceBNe, Int.cast_ofNat_Int, s4, st1, st2] at hE1
  have hu1 := u1.1
  let R : Nat → Rj := fun y => if y < M.n then role y else if y < M1.n then .other 3 else .other 2
  have rl : ∀ y, y < M.n → R y = role y := fun y hy => if_pos hy
  have r3 : ∀ y, M.n ≤ y → y < M1.n → R y = .other 3 := fun y h h' => by
    show (if y < M.n then role y else if y < M1.n then Rj.other 3 else .other 2) = _
    rw [if_neg (by omega), if_pos h']
  have r2 : ∀ y, M1.n ≤ y → R y = .other 2 := fun y h => by
    show (if y < M.n then role y else if y < M1.n then Rj.other 3 else .other 2) = _
    rw [if_neg (by omega), if_neg (by omega)]
  have bb : ∀ y, y < M1.n → y ≠ hd → y ∉ fpOf cv.1 → M4.get y = M1.get y := fun y hy h h' => by rw [b4.2 y (by omega) h, b3.2 y hy h']
  have but : Mem.But (fun y => y = hd ∨ y ∈ fpOf cv.1) M M4 := ⟨by omega, fun y hy hs => by rw [bb y (by omega) (fun e => hs (.inl e)) (fun e => hs (.inr e)), u1.2 y hy]⟩
  have I4 : GS false KI M0 M4 R hs cur gs ds := H.I.oth but (fun y hy _ => by
    rcases hy with rfl | hy
    · exact ⟨H.hM, by rw [H.rh]; exact nofun⟩
    · exact ⟨(hl y hy).2.2, by rw [(hl y hy).2.1]; exact nofun⟩) rl
  have keep : ∀ k, k ≠ 1 → k ≠ 2 → ∀ o, o < M.n → role o = .other k → M4.get o = M.get o := fun k h1 h2 o ho hr => by
    rw [bb o (by omega) (fun e => by rw [e, H.rh] at hr; cases hr; exact h1 rfl) (fun e => by rw [(hl o e).2.1] at hr; cases hr; exact h2 rfl), u1.2 o ho]
  have F : Fo role R M M4 := ⟨but.1, fun y hy ⟨k, hk, h1, h2⟩ => keep k h1 h2 y hy hk, rl⟩
  have hwl : ∀ o ∈ fpS w, o < M1.n := bytesAt_lt (show M1.bytesAt w = some d.B from ow.ints)
  have bw4 : M4.bytesAt w = some d.B := by
    rw [bytesAt_same (fun o ho => bb o (hwl o ho) (fun e => by have := fw o ho; omega) (fun e => by have := fw o ho; have := (hl o e).1; omega))]
    exact ow.ints
  refine ⟨M4, hE.trans hE1, R, cur, gs, ds, ⟨I4, H.s0, (rl hd hlt).trans H.rh, H.hM, ⟨tv, fv, (some (M1.n + 1, 0), cv.2.1 + 1, .unk 0), vs ++ [((x : Int), w)], g4, t4.fo F (by decide) (by decide), f4.fo F, tl3.same (fun o ho => ?_), fun o ho => ?_, ?_⟩, H.okT, H.okS, by simp only [List.length_append, List.length_singleton]; omega⟩, Sw.refl hc hd' hN, F⟩
  · simp only [fpOf, List.mem_singleton] at ho
    subst ho
    exact b4.2 _ (by omega) (by omega)
  · simp only [fpOf, List.mem_singleton] at ho
    subst ho
    exact ⟨by omega, r2 _ (by omega), by have := H.I.up.1; omega⟩
  · intro M5 h5 hg5
    have c5 : Cps M5 vs cl := c3 M5 (by omega) (fun o ho hr => by
      rw [hg5 o (by omega) ((rl o ho).trans hr), keep 3 (by decide) (by decide) o ho hr])
    exact c5.snoc (by
      rw [bytesAt_same (fun o ho => hg5 o (by have := hwl o ho; omega) (r3 o (fw o ho) (hwl o ho)))]
      exact bw4)
theorem lookT_of {T : List Pr} (hT : chk T = 0) {k v : Int} {b : Bool} (h : IsLk T k v b) : v = lookT T k := by
  obtain ⟨_, hI⟩ := chk_zero hT
  have h2 : ∃ b', IsLk T k (lookT T k) b' := by
    unfold lookT
    cases hf : T.find? (fun p => p.1 == k) with
    | none =>
      refine ⟨false, .inr ⟨rfl, rfl, fun p hp e => ?_⟩⟩
      have := List.find?_eq_none.1 hf p hp
      simp [e] at this
    | some p =>
      have h1 := List.find?_some hf
      have h2 := List.mem_of_find?_eq_some hf
      have : p.1 = k := by simpa using h1
      subst this
      exact ⟨true, .inl ⟨rfl, h2⟩⟩
  obtain ⟨b', h2⟩ := h2
  exact (h.uniq hI h2).1
theorem look_C (H : Hd M0 M role hs cur gs ds hd s tabs scr cl to) {x : Nat} (hx : x < tabs.length) (k : Int) : ∃ (tv v : SlV) (p : Nat × Nat) (b : Bool), M.ldL hd 1 = some tv ∧ tv.2.1 = tabs.length ∧ slPtr tv.1 tv.2.2 = some p ∧ M.ldL p.1 (p.2 + x * 1) = some v ∧ C 71 [.sl v.1 v.2.1 v.2.2, .int .u64 k] M = some (.tup [.int .u64 (lookT (tabs.getD x []) k), .bool b], M) := by
  obtain ⟨tv, fv, cv, vs, gh, t4, f4, tl, hl, c3⟩ := H.obj
  obtain ⟨tvs, h1, h2, h3⟩ := t4.now
  have hl1 := h1.2
  obtain ⟨p, hp, hv⟩ := h1.get encS1 (by omega) (i := x) (by omega)
  have hT := h3 x (tvs[x]'(by omega)) (tabs[x]'hx) (List.getElem?_eq_getElem (by omega)) (List.getElem?_eq_getElem hx)
  obtain ⟨v, b, k1, _, k2⟩ := Find_C hT k
  have hz := H.okT.2 _ (List.getElem_mem hx)
  have hlk := lookT_of hz (k2 hz)
  rw [hlk] at k1
  refine ⟨tv, tvs[x]'(by omega), p, b, by rw [ldL_at gh]; rfl, by omega, hp, ?_, ?_⟩
  · have := hv 0 (by omega)
    rw [Nat.add_zero] at this
    unfold Mem.ldL
    rw [this]; rfl
  · rw [List.getD_eq_getElem?_getD, List.getElem?_eq_getElem hx, Option.getD_some]; exact k1
theorem DS.deedB {a : Option (Nat × Nat)} {l : Nat} {c : Cap} {L : List Deed} (h : DS M role a l c L) {o : Nat} (ho : o < M.n → role o ≠ .other 4) : DeedB PSv M o a l c L := ⟨h.len, fun i hi => by
  obtain ⟨p, v, h1, h2⟩ := h.at_ i hi
  exact ⟨p, v, h1, fun M2 hb => h2 M2 hb.1 (fun o' h3 h4 => hb.2 o' h3 (fun e => ho (by omega) (by rw [← e]; exact h4)))⟩⟩
theorem Lend_adv {a1 : Option (Nat × Nat)} {l1 : Nat} {c1 : Cap} {L : List Deed} (H : GS false KI M0 M role hs cur gs ds) (hi : hs[i]? = some h) (hc : cur[i]? = some (some g)) (hd : ds[g]? = some d) {at_ n : Nat} {arg : Int} (hle : at_ + n ≤ d.B.length)
    (hO : DS M role a1 l1 c1 L) (hok : ∀ d ∈ L, DeedOk d) (hl : L.length ≤ 1048576) (hb : ∀ d ∈ L, d.2.2.length ≤ 1048576) :
    ∃ M' role' gs', C 72 [.ptr (some (h, 0)), .agg [.int .i64 (at_ : Int), .int .i64 (n : Int)], .ifc (some 116) (.agg [.sl a1 l1 c1]), .int .u64 arg] M = some (.tup [.int .u64 (L.foldl ScS.deed ⟨(d.B.drop at_).take n, [], false, 0, arg⟩).arg, .int .i64 0], M') ∧
      GS false KI M0 M' role' hs (oC cur ds.length i g) gs' ((oD cur ds g d).set (oG cur ds.length g) ⟨d.B.take at_ ++ ((L.foldl ScS.deed ⟨(d.B.drop at_).take n, [], false, 0, arg⟩).shown ++ d.B.drop (at_ + n)), (oE cur g d).a, (oE cur g d).t, (oE cur g d).mv⟩) ∧ Fj false role role' M M' := by
  have hsz := H.sz hi hc hd
  obtain ⟨M3, role3, gs3, x3, o, a, P, Q, H3, F3, hx3, ho, ha, hg, hcall, hpost⟩ := Lend_in H hi hc hd (t := 116) (f := 134) (v := .agg [.sl a1 l1 c1]) (at_ := at_) (n := n) (arg := arg) hle rfl
  obtain ⟨d3, hd3⟩ := H3.dat hx3
  obtain ⟨_, p3, _, _, rf, _, _, n3⟩ := H3.grp _ _ _ hx3 hd3
  have ro := rf o (by rw [ho]; simp)
  have no := n3 o (by rw [ho]; simp)
  have hol := Mem.get_lt hg
  have hO3 : DS M3 role3 a1 l1 c1 L := hO.fo F3.fo
  have hxs : ((d.B.drop at_).take n).length = n := by simp; omega
  have hfs := fold_shown L ⟨(d.B.drop at_).take n, [], false, 0, arg⟩ (Nat.zero_le _)
  have hfs' : (L.foldl ScS.deed ⟨(d.B.drop at_).take n, [], false, 0, arg⟩).shown.length = n := by rw [hfs]; exact hxs
  obtain ⟨M4, r1, r2, hg4⟩ : ∃ M4, C 134 [.agg [.sl a1 l1 c1], .sl a n (.known n), .int .u64 arg] M3 = some (.int .u64 (L.foldl ScS.deed ⟨(d.B.drop at_).take n, [], false, 0, arg⟩).arg, M4) ∧ Mem.But (· = o) M3 M4 ∧ M4.get o = some ⟨(P ++ ((L.foldl ScS.deed ⟨(d.B.drop at_).take n, [], false, 0, arg⟩).shown ++ Q)).map (.int .u8), .fixed⟩ := by
    by_cases h0 : 0 < n
    · obtain ⟨M4, r1, r2, r3⟩ := Adv_C (M := M3) (o := o) (P := P) (Q := Q) (ks := .fixed) (a := a) (n := n) (xs := (d.B.drop at_).take n) (arg := arg) (hO3.deedB (fun _ e => by rw [ro] at e; cases e)) hok hl hb hxs (by omega) rfl (by omega) (fun h0 => ⟨ha h0, hg⟩)
      exact ⟨M4, r1, r2, r3 h0⟩
    · obtain ⟨M4, r1, r2, _⟩ := Adv_C (M := M3) (o := M3.n + 1) (P := P) (Q := Q) (ks := .fixed) (a := a) (n := n) (xs := (d.B.drop at_).take n) (arg := arg) (hO3.deedB (fun h => by omega)) hok hl hb hxs (by omega) rfl (by omega) (fun h => absurd h h0)
      have e1 : (L.foldl ScS.deed ⟨(d.B.drop at_).take n, [], false, 0, arg⟩).shown = [] := List.length_eq_zero_iff.1 (by omega)
      have e2 : (d.B.drop at_).take n = [] := List.length_eq_zero_iff.1 (by omega)
      refine ⟨M4, r1, ⟨r2.1, fun y hy _ => r2.2 y hy (by omega)⟩, ?_⟩
      rw [r2.2 o hol (by omega), hg, e1, e2]
  have hup : M0.Upto M4 := ⟨by have := H3.up.1; have := r2.1; omega, fun y hy => by rw [r2.2 y (by have := H3.up.1; omega) (by have := H3.up.1; omega), H3.up.2 y hy]⟩
  have H4 := hpost M4 _ hfs' hup r2.1 (fun y hy _ hne => r2.2 y hy hne) hg4
  exact ⟨M4, _, _, hcall _ M4 r1, H4, F3.trans ⟨r2.1, fun y hy hs => r2.2 y hy (fun e => by rw [e, ro] at hs; exact hs rfl), fun y hy => extR_lt hy⟩⟩
theorem help9_C (H : Hd M0 M role hs cur gs ds hd s tabs scr cl to) (hc : cur[0]? = some (some g)) (hd' : ds[g]? = some d) (hN : d.mv ≤ N) {k x y z : Nat} (hk : k < scr.length) (hin : inW d.B x y = true) :
    ∃ M', p47_5 C prog.meth (some (hd, 0)) (x : Int) (y : Int) (z : Int) (k : Int) M = some (.int .u64 (runA scr ⟨d.B, cl, to⟩ k x y z).arg, M') ∧
      Out M0 M role hs cur ds hd s tabs scr N ⟨d.B.take x ++ ((runA scr ⟨d.B, cl, to⟩ k x y z).shown ++ d.B.drop (x + y)), cl, to⟩ M' := by
  have hE := p47_5_eq C prog.meth (some (hd, 0)) (x : Int) (y : Int) (z : Int) (k : Int) M
  have hB := H.I.sz H.s0 hc hd'
  obtain ⟨i1, i2⟩ := inW_iff.1 hin
  obtain ⟨tv, fv, cv, vs, gh, t4, f4, tl, hl, c3⟩ := H.obj
  obtain ⟨p, dv, hp, hld, hD⟩ := f4.at_ k hk
  have fl := f4.len
  have k0 : (0 : Int) ≤ (k : Int) := by omega
  have k1 : Nat.blt k fv.2.1 = true := Mem.blt_iff.2 (by omega)
  have wx : IntKind.wrap .i64 (x : Int) = (x : Int) := wrap_i64 (by omega) (by omega)
  have wy : IntKind.wrap .i64 (y : Int) = (y : Int) := wrap_i64 (by omega) (by omega)
  obtain ⟨hL, hok⟩ := H.okS.2 _ (List.getElem_mem hk)
  obtain ⟨M1, role1, gs1, c1, I1, F1⟩ := Lend_adv H.I H.s0 hc hd' (at_ := x) (n := y) (arg := (z : Int)) (by omega) hD (fun d hd => (hok d hd).1) hL (fun d hd => (hok d hd).2)
  simp only [int?_int, rvs, Int.reduceBEq, Int.reduceBNe, Int.cast_ofNat_Int, Nat.zero_add, ldP_at gh, ldL_at gh, k0, k1, Int.toNat_natCast, hp, hld.now, wx, wy] at hE
  rw [c1, Option.bind_some] at hE
  simp only [int?_int, rvs, Int.reduceBEq, Int.reduceBNe, Int.cast_ofNat_Int] at hE
  have er : runA scr ⟨d.B, cl, to⟩ k x y z = (scr[k]).foldl ScS.deed ⟨(d.B.drop x).take y, [], false, 0, (z : Int)⟩ := by
    unfold runA
    rw [List.getD_eq_getElem?_getD, List.getElem?_eq_getElem hk, Option.getD_some]
  rw [er]
  exact ⟨M1, hE, Out.fj H (e := ⟨_, (oE cur g d).a, (oE cur g d).t, (oE cur g d).mv⟩) I1 F1 (H.I.sw hc hd' _ (oE_mv hN))⟩
end
end Go.Proofs.Ytidofnpfeibbfaa.M
set_option linter.unusedVariables false
set_option linter.unusedSimpArgs false
set_option linter.unnecessarySimpa false
set_option maxRecDepth 100000
namespace Go.Proofs.Ytidofnpfeibbfaa.M
open Go.Abs Go.RowKit
theorem hpR_cases {i : Int} (h : hpR i = true) : i = 1 ∨ i = 2 ∨ i = 3 ∨ i = 4 ∨ i = 5 ∨ i = 6 ∨ i = 7 ∨ i = 8 ∨ (16 ≤ i ∧ i ≤ 23) := by
  unfold hpR wi at h
  simp only [Bool.cond_eq_true_distrib, Bool.cond_eq_ite, Bool.and_eq_true, decide_eq_true_eq] at h
  simp at h
  omega
section
variable {M0 M M' : Mem} {role role' : Nat → Rj} {hs : List Nat} {cur cur' : List (Option Nat)} {gs gs' : List Gp} {ds ds' : List Dt} {h i g N : Nat} {d : Dt} {hd s : Nat} {tabs : List (List Pr)} {scr : List (List Deed)} {cl : List (Int × List Int)} {to : Int}
theorem Out.mono {σ : HSt} {N' : Nat} (h : Out M0 M role hs cur ds hd s tabs scr N σ M') (hn : N ≤ N') : Out M0 M role hs cur ds hd s tabs scr N' σ M' := by
  obtain ⟨r, c, g, d, h1, h2, h3⟩ := h
  obtain ⟨g1, d1, e1, e2, e3, e4⟩ := h2.me
  exact ⟨r, c, g, d, h1, ⟨h2.len, ⟨g1, d1, e1, e2, e3, by omega⟩, h2.oth⟩, h3⟩
theorem Out.after {σ : HSt} {M1 : Mem} {role1 : Nat → Rj} (F : Fo role role1 M M1) (h : Out M0 M1 role1 hs cur ds hd s tabs scr N σ M') : Out M0 M role hs cur ds hd s tabs scr N σ M' := by
  obtain ⟨r, c, g, d, h1, h2, h3⟩ := h
  exact ⟨r, c, g, d, h1, h2, F.trans h3⟩
theorem help_C (H : Hd M0 M role hs cur gs ds hd s tabs scr cl to) (hc : cur[0]? = some (some g)) (hd' : ds[g]? = some d) (hN : d.mv ≤ N) (hN2 : N < 2 ^ 62) (hw : wfB d.B) {id : Int} {x y z : Nat} (hx : x < 2 ^ 64) (hy : y < 2 ^ 64) (hp : hpR id = true) (ht : id = 8 → x < tabs.length) :
    ∃ M', C 47 [.ptr (some (hd, 0)), .int .i32 id, .int .u64 (x : Int), .int .u64 (y : Int), .int .u64 (z : Int)] M = some (.int .u64 (helpA tabs scr ⟨d.B, cl, to⟩ id x y z).1, M') ∧ Out M0 M role hs cur ds hd s tabs scr (N + 1) (helpA tabs scr ⟨d.B, cl, to⟩ id x y z).2 M' := by
  obtain ⟨tv, fv, cv, vs, gh, t4, f4, tl, hl, c3⟩ := H.obj
  rcases hpR_cases hp with rfl | rfl | rfl | rfl | rfl | rfl | rfl | rfl | hf
  · exact ⟨M, help1_C H hc hd' hx hy, Out.same H hc hd' (by omega)⟩
  · obtain ⟨M', k1, k2⟩ := help2_C H hc hd' hN (z := z) hx hy
    have e : helpA tabs scr ⟨d.B, cl, to⟩ 2 x y z = (if inW d.B x y ∧ askE d.B.length x y = 0 then (1, ⟨storeB d.B x y z, cl, to⟩) else (0, ⟨d.B, cl, to⟩)) := rfl
    rw [e]
    by_cases h : inW d.B x y ∧ askE d.B.length x y = 0
    · rw [if_pos h] at k1 k2 ⊢; exact ⟨M', k1, k2.mono (by omega)⟩
    · rw [if_neg h] at k1 k2 ⊢; exact ⟨M', k1, k2.mono (by omega)⟩
  · have hh := p47_0_eq C prog.meth (some (hd, 0)) 3 (x : Int) (y : Int) (z : Int) M
    have hh2 := p47_2_eq C prog.meth (some (hd, 0)) 3 (x : Int) (y : Int) (z : Int) 3 M
    have hh3 := p47_3_eq C prog.meth (some (hd, 0)) 3 (x : Int) (y : Int) (z : Int) 3 true M
    obtain ⟨M', k1, k2⟩ := move_C H hc hd' hN hN2 (movI x) true
    have k1 : C 69 [.ptr (some (hd, 0)), .int .i64 (IntKind.wrap .i64 (x : Int)), .bool true] M = _ := k1
    simp only [int?_int, rvs, Int.reduceBEq, Int.reduceBNe, Int.cast_ofNat_Int] at hh hh2
    simp only [int?_int, rvs, Int.reduceBEq, Int.reduceBNe, Int.cast_ofNat_Int] at hh3
    rw [k1, Option.bind_some] at hh3
    simp only [int?_int, rvs, Int.reduceBEq, Int.reduceBNe, Int.cast_ofNat_Int] at hh3
    have hC := c47 (hh.trans (hh2.trans hh3))
    have e : helpA tabs scr ⟨d.B, cl, to⟩ 3 x y z = (if mayE d.B.length (movI x) = 0 then (1, ⟨headB d.B (movI x), cl, to⟩) else (0, ⟨d.B, cl, to⟩)) := rfl
    rw [e]
    by_cases h : mayE d.B.length (movI x) = 0
    · rw [if_pos h] at hC k2 ⊢; exact ⟨M', hC, k2⟩
    · rw [if_neg h] at hC k2 ⊢; exact ⟨M', hC, k2⟩
  · have hh := p47_0_eq C prog.meth (some (hd, 0)) 4 (x : Int) (y : Int) (z : Int) M
    have hh2 := p47_2_eq C prog.meth (some (hd, 0)) 4 (x : Int) (y : Int) (z : Int) 4 M
    have hh3 := p47_3_eq C prog.meth (some (hd, 0)) 4 (x : Int) (y : Int) (z : Int) 4 true M
    obtain ⟨M', k1, k2⟩ := move_C H hc hd' hN hN2 (movI x) false
    have k1 : C 69 [.ptr (some (hd, 0)), .int .i64 (IntKind.wrap .i64 (x : Int)), .bool false] M = _ := k1
    simp only [int?_int, rvs, Int.reduceBEq, Int.reduceBNe, Int.cast_ofNat_Int] at hh hh2
    simp only [int?_int, rvs, Int.reduceBEq, Int.reduceBNe, Int.cast_ofNat_Int] at hh3
    rw [k1, Option.bind_some] at hh3
    simp only [int?_int, rvs, Int.reduceBEq, Int.reduceBNe, Int.cast_ofNat_Int] at hh3
    have hC := c47 (hh.trans (hh2.trans hh3))
    have e : helpA tabs scr ⟨d.B, cl, to⟩ 4 x y z = (if mayE d.B.length (movI x) = 0 then (1, ⟨tailB d.B (movI x), cl, to⟩) else (0, ⟨d.B, cl, to⟩)) := rfl
    rw [e]
    by_cases h : mayE d.B.length (movI x) = 0
    · rw [if_pos h] at hC k2 ⊢; exact ⟨M', hC, k2⟩
    · rw [if_neg h] at hC k2 ⊢; exact ⟨M', hC, k2⟩
  · have hh := p47_0_eq C prog.meth (some (hd, 0)) 5 (x : Int) (y : Int) (z : Int) M
    have hh2 := p47_2_eq C prog.meth (some (hd, 0)) 5 (x : Int) (y : Int) (z : Int) 5 M
    have hh3 := p47_3_eq C prog.meth (some (hd, 0)) 5 (x : Int) (y : Int) (z : Int) 5 false M
    have wz : IntKind.wrap .u16 (z : Int) = ((z % 65536 : Nat) : Int) := by rw [wu16]; omega
    obtain ⟨M', k1, k2⟩ := fixH_C H hc hd' hN hw (z := z) hx hy
    simp only [int?_int, rvs, Int.reduceBEq, Int.reduceBNe, Int.cast_ofNat_Int] at hh hh2
    simp only [int?_int, rvs, Int.reduceBEq, Int.reduceBNe, Int.cast_ofNat_Int, wz] at hh3
    rw [k1, Option.bind_some] at hh3
    simp only [int?_int, rvs, Int.reduceBEq, Int.reduceBNe, Int.cast_ofNat_Int] at hh3
    have hC := c47 (hh.trans (hh2.trans hh3))
    have e : helpA tabs scr ⟨d.B, cl, to⟩ 5 x y z = (if mayF d.B.length x y then (1, ⟨fixB d.B x y z (updN (wordB d.B x) (wordB d.B y) (z % 65536)), cl, to⟩) else (0, ⟨d.B, cl, to⟩)) := rfl
    rw [e]
    by_cases h : mayF d.B.length x y = true
    · rw [if_pos h] at hC k2 ⊢; exact ⟨M', hC, k2.mono (by omega)⟩
    · rw [if_neg h] at hC k2 ⊢; exact ⟨M', hC, k2.mono (by omega)⟩
  · have hh := p47_0_eq C prog.meth (some (hd, 0)) 6 (x : Int) (y : Int) (z : Int) M
    have hh2 := p47_2_eq C prog.meth (some (hd, 0)) 6 (x : Int) (y : Int) (z : Int) 6 M
    have hh3 := p47_3_eq C prog.meth (some (hd, 0)) 6 (x : Int) (y : Int) (z : Int) 6 false M
    obtain ⟨M', k1, k2⟩ := help6_C H hc hd' hN x
    simp only [int?_int, rvs, Int.reduceBEq, Int.reduceBNe, Int.cast_ofNat_Int] at hh hh2
    simp only [int?_int, rvs, Int.reduceBEq, Int.reduceBNe, Int.cast_ofNat_Int] at hh3
    have hC := c47 (hh.trans (hh2.trans (hh3.trans k1)))
    have e : helpA tabs scr ⟨d.B, cl, to⟩ 6 x y z = (if x < 8 ∧ cl.length < 8 then (1, ⟨d.B, cl ++ [((x : Int), d.B)], to⟩) else (0, ⟨d.B, cl, to⟩)) := rfl
    rw [e]
    by_cases h : x < 8 ∧ cl.length < 8
    · rw [if_pos h] at hC k2 ⊢; exact ⟨M', hC, k2.mono (by omega)⟩
    · rw [if_neg h] at hC k2 ⊢; exact ⟨M', hC, k2.mono (by omega)⟩
  · have hh := p47_0_eq C prog.meth (some (hd, 0)) 7 (x : Int) (y : Int) (z : Int) M
    have hh2 := p47_2_eq C prog.meth (some (hd, 0)) 7 (x : Int) (y : Int) (z : Int) 7 M
    have hh3 := p47_3_eq C prog.meth (some (hd, 0)) 7 (x : Int) (y : Int) (z : Int) 7 false M
    simp only [int?_int, rvs, Int.reduceBEq, Int.reduceBNe, Int.cast_ofNat_Int] at hh hh2
    have e : helpA tabs scr ⟨d.B, cl, to⟩ 7 x y z = (if x < 8 then (1, ⟨d.B, cl, (x : Int)⟩) else (0, ⟨d.B, cl, to⟩)) := rfl
    rw [e]
    by_cases h : x < 8
    · have q : ¬ ((x : Int) ≥ 8) := by omega
      have wx : IntKind.wrap .i64 (x : Int) = (x : Int) := wrap_i64 (by omega) (by omega)
      obtain ⟨M', k1, k2⟩ := way_C H hc hd' hN (x : Int)
      simp only [int?_int, rvs, Int.reduceBEq, Int.reduceBNe, Int.cast_ofNat_Int, q, Nat.zero_add, wx, k1] at hh3
      rw [if_pos h]
      exact ⟨M', c47 (hh.trans (hh2.trans hh3)), k2.mono (by omega)⟩
    · have q : ((x : Int) ≥ 8) := by omega
      simp only [int?_int, rvs, Int.reduceBEq, Int.reduceBNe, Int.cast_ofNat_Int, q] at hh3
      rw [if_neg h]
      exact ⟨M, c47 (hh.trans (hh2.trans hh3)), Out.same H hc hd' (by omega)⟩
  · have hh := p47_0_eq C prog.meth (some (hd, 0)) 8 (x : Int) (y : Int) (z : Int) M
    have hh2 := p47_2_eq C prog.meth (some (hd, 0)) 8 (x : Int) (y : Int) (z : Int) 8 M
    have hh3 := p47_3_eq C prog.meth (some (hd, 0)) 8 (x : Int) (y : Int) (z : Int) 8 false M
    obtain ⟨tv', v, p, b, e1, e2, e3, e4, e5⟩ := look_C H (ht rfl) (y : Int)
    have hlt := ht rfl
    have x0 : (0 : Int) ≤ (x : Int) := by omega
    have x1 : Nat.blt x tv'.2.1 = true := Mem.blt_iff.2 (by omega)
    simp only [int?_int, rvs, Int.reduceBEq, Int.reduceBNe, Int.cast_ofNat_Int] at hh hh2
    simp only [int?_int, rvs, Int.reduceBEq, Int.reduceBNe, Int.cast_ofNat_Int, Nat.zero_add, e1, x0, x1, Int.toNat_natCast, e3, e4, e5] at hh3
    exact ⟨M, c47 (hh.trans (hh2.trans hh3)), Out.same H hc hd' (by omega)⟩
  · obtain ⟨k, hk⟩ : ∃ k : Nat, id = 16 + (k : Int) := ⟨(id - 16).toNat, by omega⟩
    have hk8 : k < 8 := by omega
    have hh := p47_0_eq C prog.meth (some (hd, 0)) id (x : Int) (y : Int) (z : Int) M
    have hh2 := p47_2_eq C prog.meth (some (hd, 0)) id (x : Int) (y : Int) (z : Int) id M
    have hh3 := p47_3_eq C prog.meth (some (hd, 0)) id (x : Int) (y : Int) (z : Int) id false M
    have z1 : (id == 1) = false := by simp; omega
    have z2 : (id == 2) = false := by simp; omega
    have z3 : (id == 3) = false := by simp; omega
    have z4 : (id == 4) = false := by simp; omega
    have z5 : (id == 5) = false := by simp; omega
    have z6 : (id == 6) = false := by simp; omega
    have z7 : (id == 7) = false := by simp; omega
    have z8 : (id == 8) = false := by simp; omega
    have w : IntKind.wrap .i64 (IntKind.wrap .i32 (id - 16)) = (k : Int) := by
      have : IntKind.wrap .i32 (id - 16) = (k : Int) := by rw [wi32]; omega
      rw [this]; exact wrap_i64 (by omega) (by omega)
    simp only [z1, z2, cond_false] at hh
    simp only [z3, z4, cond_false] at hh2
    have fl := f4.len
    have e : helpA tabs scr ⟨d.B, cl, to⟩ id x y z = (if k < scr.length ∧ inW d.B x y then ((runA scr ⟨d.B, cl, to⟩ k x y z).arg, ⟨d.B.take x ++ ((runA scr ⟨d.B, cl, to⟩ k x y z).shown ++ d.B.drop (x + y)), cl, to⟩) else (0, ⟨d.B, cl, to⟩)) := by
      unfold helpA
      rw [if_neg (by omega), if_neg (by omega), if_neg (by omega), if_neg (by omega), if_neg (by omega), if_neg (by omega), if_neg (by omega), if_neg (by omega), show (id - 16).toNat = k by omega]
    rw [e]
    by_cases h1 : k < scr.length
    rotate_left
    · have q : ((k : Int) ≥ (fv.2.1 : Int)) := by omega
      simp only [int?_int, rvs, Int.reduceBEq, Int.reduceBNe, Int.cast_ofNat_Int, z5, z6, z7, z8, w, Nat.zero_add, ldL_at gh, q] at hh3
      rw [if_neg (fun h => h1 h.1)]
      exact ⟨M, c47 (hh.trans (hh2.trans hh3)), Out.same H hc hd' (by omega)⟩
    have q : ¬ ((k : Int) ≥ (fv.2.1 : Int)) := by omega
    obtain ⟨p, dv, hp, hld, _⟩ := f4.at_ k h1
    have k0 : (0 : Int) ≤ (k : Int) := by omega
    have k1 : Nat.blt k fv.2.1 = true := Mem.blt_iff.2 (by omega)
    simp only [int?_int, rvs, Int.reduceBEq, Int.reduceBNe, Int.cast_ofNat_Int, z5, z6, z7, z8, w, Nat.zero_add, ldL_at gh, q, k0, k1, Int.toNat_natCast, hp, hld.now, within0_C H hc hd' hx hy] at hh3
    cases hin : inW d.B x y with
    | false =>
      simp only [hin, Bool.not_false, cond_true] at hh3
      rw [if_neg (by simp)]
      exact ⟨M, c47 (hh.trans (hh2.trans hh3)), Out.same H hc hd' (by omega)⟩
    | true =>
      simp only [hin, Bool.not_true, cond_false] at hh3
      obtain ⟨M', k2, k3⟩ := help9_C H hc hd' hN (z := z) h1 hin
      rw [if_pos ⟨h1, rfl⟩]
      exact ⟨M', c47 (hh.trans (hh2.trans (hh3.trans k2))), k3.mono (by omega)⟩
theorem Call_C (H : Hd M0 M role hs cur gs ds hd s tabs scr cl to) (hc : cur[0]? = some (some g)) (hd' : ds[g]? = some d) (hN : d.mv ≤ N) (hN2 : N < 2 ^ 62) (hw : wfB d.B) {id : Int} (hid : -2147483648 ≤ id ∧ id < 2147483648) {x y z : Nat} {q4 q5 : Int} (hx : x < 2 ^ 64) (hy : y < 2 ^ 64) :
    ∃ M', C 17 [.ptr (some (hd, 0)), .int .i32 id, .agg [.int .u64 (x : Int), .int .u64 (y : Int), .int .u64 (z : Int), .int .u64 q4, .int .u64 q5]] M = some (.tup [.int .u64 (callA tabs scr ⟨d.B, cl, to⟩ id x y z).1, .int .i64 (callA tabs scr ⟨d.B, cl, to⟩ id x y z).2.1], M') ∧
      Out M0 M role hs cur ds hd s tabs scr (N + 1) (callA tabs scr ⟨d.B, cl, to⟩ id x y z).2.2 M' := by
  have hE := p17_0_eq C prog.meth (some (hd, 0)) id (x : Int) (y : Int) (z : Int) q4 q5 M
  obtain ⟨M1, e1, g1, u1, n1⟩ := alloc_at M ⟨[.int .u64 (x : Int), .int .u64 (y : Int), .int .u64 (z : Int), .int .u64 q4, .int .u64 q5], .fixed⟩
  have H1 := H.upto 0 u1
  have F1 := (Fj.extK 0 role u1).fo
  obtain ⟨tv, fv, cv, vs, gh, t4, f4, tl, hl, c3⟩ := H1.obj
  obtain ⟨tvs, h1, h2, _⟩ := t4.now
  have hlt : tv.2.1 = tabs.length := by rw [← h1.2]; exact h2
  have hT4 := H.okT.1
  have hth := p46_0_eq C prog.meth (some (hd, 0)) M1
  simp only [int?_int, rvs, Int.reduceBEq, Int.reduceBNe, Int.cast_ofNat_Int, Nat.zero_add, ldP_at gh] at hth
  obtain ⟨_, ha⟩ := HArgs_C (i := id) hid
  have al := alive0_C H1.I H1.s0 hc hd'
  have l0 : M1.ldI .u64 M.n (0 + 0 * 1) = some (x : Int) := by rw [ldI_at g1]; rfl
  have l1 : M1.ldI .u64 M.n (0 + 1 * 1) = some (y : Int) := by rw [ldI_at g1]; rfl
  have l2 : M1.ldI .u64 M.n (0 + 2 * 1) = some (z : Int) := by rw [ldI_at g1]; rfl
  have l0' : M1.ldI .u64 M.n 0 = some (x : Int) := by rw [ldI_at g1]; rfl
  have same : Out M0 M role hs cur ds hd s tabs scr (N + 1) ⟨d.B, cl, to⟩ M1 := Out.after F1 (Out.same H1 hc hd' (by omega))
  unfold callA
  unfold tellA at ha
  cases hp : hpR id with
  | false =>
    rw [hp] at ha
    simp only [cond_false] at ha
    simp only [e1, c46 hth, int?_int, rvs, Int.reduceBEq, Int.reduceBNe, Int.cast_ofNat_Int, Nat.zero_add, ldP_at gh, al, bne_self_eq_false, ha] at hE
    rw [if_pos (.inl rfl)]
    exact ⟨M1, c17 hE, same⟩
  | true =>
    rw [hp] at ha
    simp only [cond_true] at ha
    simp only [e1, c46 hth, int?_int, rvs, Int.reduceBEq, Int.reduceBNe, Int.cast_ofNat_Int, Nat.zero_add, ldP_at gh, al, bne_self_eq_false, ha] at hE
    have rest : (id = 8 → x < tabs.length) → C 17 [.ptr (some (hd, 0)), .int .i32 id, .agg [.int .u64 (x : Int), .int .u64 (y : Int), .int .u64 (z : Int), .int .u64 q4, .int .u64 q5]] M = C 17 [.ptr (some (hd, 0)), .int .i32 id, .agg [.int .u64 (x : Int), .int .u64 (y : Int), .int .u64 (z : Int), .int .u64 q4, .int .u64 q5]] M →
        p17_0 C prog.meth (some (hd, 0)) id (x : Int) (y : Int) (z : Int) q4 q5 M = p17_1 C prog.meth (some (hd, 0)) id M.n M1 →
        ∃ M', C 17 [.ptr (some (hd, 0)), .int .i32 id, .agg [.int .u64 (x : Int), .int .u64 (y : Int), .int .u64 (z : Int), .int .u64 q4, .int .u64 q5]] M = some (.tup [.int .u64 (helpA tabs scr ⟨d.B, cl, to⟩ id x y z).1, .int .i64 0], M') ∧ Out M0 M role hs cur ds hd s tabs scr (N + 1) (helpA tabs scr ⟨d.B, cl, to⟩ id x y z).2 M' := fun ht _ hq => by
      have hE1 := p17_1_eq C prog.meth (some (hd, 0)) id M.n M1
      obtain ⟨M', k1, k2⟩ := help_C H1 hc hd' hN hN2 hw (z := z) hx hy hp ht
      simp only [l0, l1, l2, Option.bind_some] at hE1
      rw [k1, Option.bind_some] at hE1
      simp only [int?_int, rvs, Int.reduceBEq, Int.reduceBNe, Int.cast_ofNat_Int] at hE1
      exact ⟨M', c17 (hq.trans hE1), Out.after F1 k2⟩
    by_cases h8 : id = 8
    · have z8 : (id == 8) = true := by simp [h8]
      have wt : IntKind.wrap .u64 (tv.2.1 : Int) = (tv.2.1 : Int) := by rw [wu64]; omega
      simp only [z8, cond_true, l0', Nat.zero_mul, Option.bind_some, ldL_at gh, List.getElem?_cons_succ, List.getElem?_cons_zero, AVal.sl?, wt] at hE
      by_cases h9 : x < tabs.length
      · have q : ¬ ((x : Int) ≥ (tv.2.1 : Int)) := by omega
        simp only [q, decide_false, cond_false] at hE
        rw [if_neg (by rintro (h | h); cases h; omega)]
        exact rest (fun _ => h9) rfl hE
      · have q : ((x : Int) ≥ (tv.2.1 : Int)) := by omega
        simp only [q, decide_true, cond_true] at hE
        rw [if_pos (.inr ⟨h8, by omega⟩)]
        exact ⟨M1, c17 hE, same⟩
    · have z8 : (id == 8) = false := by simp [h8]
      simp only [z8, cond_false] at hE
      rw [if_neg (by rintro (h | h); cases h; exact h8 h.1)]
      exact rest (fun h => absurd h h8) rfl hE
end
end Go.Proofs.Ytidofnpfeibbfaa.M
set_option linter.unusedVariables false
set_option linter.unusedSimpArgs false
set_option linter.unnecessarySimpa false
set_option maxRecDepth 100000
namespace Go.Proofs.Ytidofnpfeibbfaa.M
open Go.Abs Go.RowKit
def Tbs (M : Mem) (tvs : List SlV) (Ts : List (List Pr)) : Prop := tvs.length = Ts.length ∧ ∀ (i : Nat) (w : SlV) (T : List Pr), tvs[i]? = some w → Ts[i]? = some T → Sl M 2 encP w.1 w.2.1 w.2.2 T
theorem Tbs.nil (M : Mem) : Tbs M [] [] := ⟨rfl, fun i w T h => by simp at h⟩
theorem Tbs.snoc {M : Mem} {tvs : List SlV} {Ts : List (List Pr)} {w : SlV} {T : List Pr} (h : Tbs M tvs Ts) (hw : Sl M 2 encP w.1 w.2.1 w.2.2 T) : Tbs M (tvs ++ [w]) (Ts ++ [T]) := by
  refine ⟨by simp [h.1], fun i w' T' h1 h2 => ?_⟩
  have hl := h.1
  by_cases e : i < tvs.length
  · rw [List.getElem?_append_left e] at h1
    rw [List.getElem?_append_left (by omega)] at h2
    exact h.2 i w' T' h1 h2
  · rw [List.getElem?_append_right (by omega)] at h1
    rw [List.getElem?_append_right (by omega)] at h2
    have e0 : i - tvs.length = 0 := by
      by_cases e0 : i - tvs.length = 0
      · exact e0
      · rw [List.getElem?_eq_none (by simp; omega)] at h1; simp at h1
    rw [e0] at h1
    rw [show i - Ts.length = 0 by omega] at h2
    simp only [List.getElem?_cons_zero, Option.some.injEq] at h1 h2
    subst h1 h2; exact hw
theorem Tbs.same {M M' : Mem} {tvs : List SlV} {Ts : List (List Pr)} (h : Tbs M tvs Ts) (hg : ∀ w ∈ tvs, ∀ o ∈ fpOf w.1, M'.get o = M.get o) : Tbs M' tvs Ts := ⟨h.1, fun i w T h1 h2 => (h.2 i w T h1 h2).same (fun p hp => hg w (List.mem_of_getElem? h1) p.1 (by rw [hp]; simp [fpOf]))⟩
theorem Tbs.upto {M M' : Mem} {tvs : List SlV} {Ts : List (List Pr)} (h : Tbs M tvs Ts) (hu : M.Upto M') : Tbs M' tvs Ts := ⟨h.1, fun i w T h1 h2 => (h.2 i w T h1 h2).upto encP2 (by omega) hu⟩
section
variable {M : Mem}
end
def encF (v : SlV) : List AVal := [.ifc (some 116) (.agg [.sl v.1 v.2.1 v.2.2])]
theorem encF1 : Enc 1 encF := fun _ => rfl
section
variable {M0 M M' : Mem} {role role' : Nat → Rj} {hs : List Nat} {cur cur' : List (Option Nat)} {gs gs' : List Gp} {ds ds' : List Dt} {h i g N : Nat} {d : Dt} {hd s : Nat} {tabs : List (List Pr)} {scr : List (List Deed)} {cl : List (Int × List Int)} {to : Int}
theorem CloneF_C {α : Type} {enc : α → List AVal} (he : Enc 1 enc) {a : Option (Nat × Nat)} {l : Nat} {c : Cap} {dvs : List α} (h : Sl M 1 enc a l c dvs) (hl : l ≤ 2 ^ 40) :
    ∃ (M' : Mem) (fv : SlV), C 41 [.sl a l c] M = some (.sl fv.1 fv.2.1 fv.2.2, M') ∧ M.Upto M' ∧ fv.2.1 = l ∧ (0 < l → ∃ o, fv.1 = some (o, 0) ∧ fv.2.2 = .unk 0 ∧ M'.get o = some ⟨dvs.flatMap enc, .grow 1⟩ ∧ M.n ≤ o) := by
  have hE := p41_0_eq C prog.meth a l c M
  have hxl := h.2
  cases a with
  | none =>
    have h0 : l = 0 := by
      by_cases h0 : 0 < l
      · obtain ⟨p, hp, _⟩ := h.get he (by omega) h0
        have := (slPtr_some hp).1; cases this
      · omega
    subst h0
    simp only [Option.isNone_none, cond_true] at hE
    exact ⟨M, (none, 0, .known 0), c41 hE, Mem.Upto.refl M, rfl, fun h => by omega⟩
  | some p =>
    simp only [Option.isNone_some, cond_false] at hE
    obtain ⟨M1, e1, g1, u1, n1⟩ := alloc_at M ⟨[], .fixed⟩
    rw [e1] at hE
    by_cases h0 : 0 < l
    · have h1 := h.upto he (by omega) u1
      rw [appK_more (xs := []) rfl h1.1 (by omega) (by omega)] at hE
      obtain ⟨M2, e2, g2, u2, n2⟩ := alloc_at M1 ⟨[] ++ dvs.flatMap enc, .grow 1⟩
      rw [e2] at hE
      exact ⟨M2, (some (M1.n, 0), 0 + l, .unk 0), c41 hE, u1.trans u2, by simp, fun _ => ⟨M1.n, rfl, rfl, by rw [List.nil_append] at g2; exact g2, by omega⟩⟩
    · obtain rfl : l = 0 := by omega
      rw [appK_none (Nat.le_refl 0)] at hE
      exact ⟨M1, (some (M.n, 0), 0, .known 0), c41 hE, u1, rfl, fun h => by omega⟩
theorem CloneT_C {a : Option (Nat × Nat)} {l : Nat} {c : Cap} {xs : List Pr} (h : Sl M 2 encP a l c xs) (hl : l ≤ 2 ^ 43) :
    ∃ (M' : Mem) (w : SlV), C 43 [.sl a l c] M = some (.sl w.1 w.2.1 w.2.2, M') ∧ M.Upto M' ∧ Sl M' 2 encP w.1 w.2.1 w.2.2 xs ∧ (∀ o ∈ fpS w, M.n ≤ o ∧ o < M'.n) := by
  have hE := p43_0_eq C prog.meth a l c M
  have hxl := h.2
  cases a with
  | none =>
    have h0 : l = 0 := by
      by_cases h0 : 0 < l
      · obtain ⟨p, hp, _⟩ := h.get encP2 (by omega) h0
        have := (slPtr_some hp).1; cases this
      · omega
    subst h0
    have hx0 := h.zero
    subst hx0
    simp only [Option.isNone_none, cond_true] at hE
    exact ⟨M, (none, 0, .known 0), c43 hE, Mem.Upto.refl M, Sl.nil _ _ _ _ _, fun o ho => by simp [fpS] at ho⟩
  | some p =>
    simp only [Option.isNone_some, cond_false] at hE
    obtain ⟨M1, e1, g1, u1, n1⟩ := alloc_at M ⟨[], .fixed⟩
    rw [e1] at hE
    by_cases h0 : 0 < l
    · have h1 := h.upto encP2 (by omega) u1
      rw [appK_more (xs := []) rfl h1.1 (by omega) (by omega)] at hE
      obtain ⟨M2, e2, g2, u2, n2⟩ := alloc_at M1 ⟨[] ++ xs.flatMap encP, .grow 2⟩
      rw [e2] at hE
      rw [List.nil_append] at g2
      have hw := Sl.whole (c := .unk 0) encP2 g2 (by simp) rfl
      rw [hxl] at hw
      exact ⟨M2, (some (M1.n, 0), l, .unk 0), by have := c43 hE; rwa [Nat.zero_add] at this, u1.trans u2, hw, fun o ho => by
        unfold fpS at ho
        rw [if_neg (by simp only; omega)] at ho
        simp only [fpOf, List.mem_singleton] at ho
        subst ho; omega⟩
    · obtain rfl : l = 0 := by omega
      have hx0 := h.zero
      subst hx0
      rw [appK_none (Nat.le_refl 0)] at hE
      exact ⟨M1, (some (M.n, 0), 0, .known 0), c43 hE, u1, Sl.nil _ _ _ _ _, fun o ho => by simp [fpS] at ho⟩
theorem Sl.fp {α : Type} {s : Nat} {enc : α → List AVal} {w : SlV} {xs : List α} (h : Sl M s enc w.1 w.2.1 w.2.2 xs) (hg : ∀ o ∈ fpS w, M'.get o = M.get o) : Sl M' s enc w.1 w.2.1 w.2.2 xs := by
  by_cases h0 : w.2.1 = 0
  · rw [h0] at h ⊢
    have := h.zero
    subst this
    exact Sl.nil _ _ _ _ _
  · exact h.same (fun p hp => hg p.1 (by unfold fpS; rw [if_neg h0, hp]; simp [fpOf]))
end
end Go.Proofs.Ytidofnpfeibbfaa.M
set_option linter.unusedVariables false
set_option linter.unusedSimpArgs false
set_option linter.unnecessarySimpa false
set_option maxRecDepth 100000
namespace Go.Proofs.Ytidofnpfeibbfaa.M
open Go.Abs Go.RowKit
noncomputable def firstBad : List (List Pr) → Int
  | [] => 0
  | T :: r => if chk T = 0 then firstBad r else chk T
noncomputable def newE (tabs : List (List Pr)) (n : Nat) : Int := if 4 < tabs.length then 3 else if firstBad tabs ≠ 0 then firstBad tabs else if 8 < n then 3 else 0
theorem firstBad_zero : ∀ {tabs : List (List Pr)}, firstBad tabs = 0 → ∀ T ∈ tabs, chk T = 0
  | [], _ => by simp
  | T :: r, h => by
    rw [firstBad] at h
    by_cases e : chk T = 0
    · rw [if_pos e] at h
      intro T' hT
      rcases List.mem_cons.1 hT with rfl | hT
      · exact e
      · exact firstBad_zero h T' hT
    · rw [if_neg e] at h; exact absurd h e
structure Mk (M1 M : Mem) (hd s : Nat) (fv tl : SlV) (vs : List SlV) (Ts : List (List Pr)) : Prop where
  gh : M.get hd = some ⟨[.ptr (some (s, 0)), .sl tl.1 tl.2.1 tl.2.2, .sl fv.1 fv.2.1 fv.2.2, .sl none 0 (.known 0), .int .i64 (-1)], .fixed⟩
  tt : Tail M 1 encS tl.1 tl.2.1 tl.2.2 vs
  tb : Tbs M vs Ts
  ft : ∀ o ∈ fpOf tl.1, hd < o ∧ o < M.n
  fs : ∀ v ∈ vs, ∀ o ∈ fpS v, hd < o ∧ o < M.n ∧ o ∉ fpOf tl.1
  up : M1.n ≤ M.n
  old : ∀ y, y < hd → M.get y = M1.get y
section
variable {M0 M M' : Mem} {role role' : Nat → Rj} {hs : List Nat} {cur cur' : List (Option Nat)} {gs gs' : List Gp} {ds ds' : List Dt} {h i g N : Nat} {d : Dt} {hd s : Nat} {tabs : List (List Pr)} {scr : List (List Deed)} {cl : List (Int × List Int)} {to : Int}
theorem new_loop {M1 : Mem} {ta : Option (Nat × Nat)} {l : Nat} {tc : Cap} {tvs : List SlV} {fa : Option (Nat × Nat)} {fl : Nat} {fc : Cap} {fv : SlV} (hhd : hd < M1.n) (hl : l ≤ 4) (hlen : tabs.length = l)
    (harg : ∀ M, M1.n ≤ M.n → (∀ y, y < hd → M.get y = M1.get y) → Sl M 1 encS ta l tc tvs ∧ Tbs M tvs tabs) (h64 : ∀ T ∈ tabs, T.length ≤ 2 ^ 43) :
    ∀ (d i : Nat) (M : Mem) (tl : SlV) (vs : List SlV), i + d = l → Mk M1 M hd s fv tl vs (tabs.take i) →
      (firstBad (tabs.drop i) ≠ 0 ∧ ∃ M', p15_1 C prog.meth fa fl fc (some (hd, 0)) ta l tc (l : Int) (i : Int) M = some (.tup [.ptr none, .int .i64 (firstBad (tabs.drop i))], M') ∧ M1.n ≤ M'.n ∧ ∀ y, y < hd → M'.get y = M1.get y) ∨
      (firstBad (tabs.drop i) = 0 ∧ ∃ (M' : Mem) (tl' : SlV) (vs' : List SlV), p15_1 C prog.meth fa fl fc (some (hd, 0)) ta l tc (l : Int) (i : Int) M = p15_1 C prog.meth fa fl fc (some (hd, 0)) ta l tc (l : Int) (l : Int) M' ∧ Mk M1 M' hd s fv tl' vs' tabs) := by
  intro d
  induction d with
  | zero =>
    intro i M tl vs hi h
    obtain rfl : i = l := by omega
    rw [List.take_of_length_le (by omega)] at h
    right
    rw [List.drop_eq_nil_of_le (by omega)]
    exact ⟨rfl, M, tl, vs, rfl, h⟩
  | succ d ih =>
    intro i M tl vs hi h
    have hE := p15_1_eq C prog.meth fa fl fc (some (hd, 0)) ta l tc (l : Int) (i : Int) M
    have q : ((i : Int) < (l : Int)) := by omega
    have k0 : (0 : Int) ≤ (i : Int) := by omega
    have k1 : Nat.blt i l = true := Mem.blt_iff.2 (by omega)
    have w1 : IntKind.wrap .i64 ((i : Int) + 1) = ((i + 1 : Nat) : Int) := by rw [wrap_i64 (by omega) (by omega)]; rfl
    obtain ⟨ha, hT⟩ := harg M h.up h.old
    have hal := ha.2
    obtain ⟨p, hp, hv⟩ := ha.get encS1 (by omega) (i := i) (by omega)
    have v0 : M.ldL p.1 (p.2 + i * 1) = some (tvs[i]'(by omega)) := by
      have := hv 0 (by omega)
      rw [Nat.add_zero] at this
      unfold Mem.ldL
      rw [this]; rfl
    have hTi := hT.2 i (tvs[i]'(by omega)) (tabs[i]'(by omega)) (List.getElem?_eq_getElem (by omega)) (List.getElem?_eq_getElem (by omega))
    have dr : tabs.drop i = tabs[i]'(by omega) :: tabs.drop (i + 1) := List.drop_eq_getElem_cons (by omega)
    simp only [int?_int, rvs, Int.reduceBEq, Int.reduceBNe, Int.cast_ofNat_Int, q, k0, k1, Int.toNat_natCast, hp, v0, TCheck_C hTi] at hE
    rw [dr, firstBad]
    by_cases hz : chk (tabs[i]'(by omega)) = 0
    rotate_left
    · have e : (chk (tabs[i]'(by omega)) != 0) = true := by simp [hz]
      simp only [e, cond_true] at hE
      left
      rw [if_neg hz]
      exact ⟨hz, M, hE, h.up, h.old⟩
    rw [if_pos hz]
    have e : (chk (tabs[i]'(by omega)) != 0) = false := by simp [hz]
    have hTl := hTi.2
    obtain ⟨M2, w, k2, u2, sw, fw⟩ := CloneT_C hTi (by have := h64 _ (List.getElem_mem (show i < tabs.length by omega)); omega)
    have gh2 := u2.get h.gh
    have hun := u2.1
    have vl := h.tt.length
    have vT := h.tb.1
    rw [List.length_take, Nat.min_eq_left (by omega)] at vT
    obtain ⟨M3, k3, t3, n3, b3, g3⟩ := Tail.push (bytes := 24) (y := w) (cs := [.sl w.1 w.2.1 w.2.2]) (h.tt.same (M' := M2) (fun o ho => u2.2 o (h.ft o ho).2)) encS1 (by omega) rfl (by omega) (fun o ho => by have := (h.ft o ho).2; omega)
    have gh3 : M3.get hd = _ := (b3.2 hd (by have := h.up; omega) (fun e => by have := (h.ft hd e).1; omega)).trans gh2
    obtain ⟨M4, s4, g4, n4, b4⟩ := st_at (i := 1) (vs := [.sl (some (M2.n + 1, 0)) (tl.2.1 + 1) (.unk 0)]) gh3 (by simp)
    simp only [overL_one, List.set_cons_succ, List.set_cons_zero] at g4
    have st1 : M2.still hd 1 [.sl tl.1 tl.2.1 tl.2.2] = true := still1 (by rw [ld_fix gh2]; rfl)
    obtain ⟨Ma, ea, ga, ua, na⟩ := alloc_at M2 ⟨[.sl w.1 w.2.1 w.2.2], .fixed⟩
    have st2 : (M2.alloc ⟨[.sl w.1 w.2.1 w.2.2], .fixed⟩).still hd 1 [.sl tl.1 tl.2.1 tl.2.2] = true := by
      rw [ea]; exact still1 (by rw [ld_fix (ua.get gh2)]; rfl)
    simp only [e, cond_false, Nat.zero_add, ldL_at h.gh, List.getElem?_cons_zero, List.getElem?_cons_succ, Option.bind_some, AVal.sl?, k2] at hE
    rw [k3] at hE
    simp only [int?_int, rvs, Int.reduceBEq, Int.reduceBNe, Int.cast_ofNat_Int, s4, st1, st2, w1] at hE
    have keep : ∀ o, o < M2.n → hd < o → o ∉ fpOf tl.1 → M4.get o = M2.get o := fun o h1 h2 h3 => by rw [b4.2 o (by omega) (by omega), b3.2 o h1 h3]
    have hMk : Mk M1 M4 hd s fv (some (M2.n + 1, 0), tl.2.1 + 1, .unk 0) (vs ++ [w]) (tabs.take (i + 1)) := by
      refine ⟨g4, t3.same (fun o ho => b4.2 o (by simp only [fpOf, List.mem_singleton] at ho; omega) (by simp only [fpOf, List.mem_singleton] at ho; have := h.up; omega)), ?_, fun o ho => ?_, fun v hv o ho => ?_, by have := h.up; omega, fun y hy => ?_⟩
      · rw [List.take_add_one, List.getElem?_eq_getElem (show i < tabs.length by omega)]
        refine Tbs.snoc ⟨h.tb.1, fun j v T h1 h2 => ?_⟩ (Sl.fp sw (fun o ho => keep o (fw o ho).2 (by have := (fw o ho).1; have := h.up; omega) (fun e => by have := (h.ft o e).2; have := (fw o ho).1; omega)))
        have hm := List.mem_of_getElem? h1
        exact Sl.fp (h.tb.2 j v T h1 h2) (fun o ho => by
          obtain ⟨f1, f2, f3⟩ := h.fs v hm o ho
          rw [keep o (by omega) f1 f3, u2.2 o f2])
      · simp only [fpOf, List.mem_singleton] at ho
        have := h.up
        omega
      · have hnot : o < M2.n → o ∉ fpOf (some (M2.n + 1, 0)) := fun h1 h2 => by simp only [fpOf, List.mem_singleton] at h2; omega
        rcases List.mem_append.1 hv with hv | hv
        · obtain ⟨f1, f2, f3⟩ := h.fs v hv o ho
          exact ⟨f1, by omega, hnot (by omega)⟩
        · obtain rfl : v = w := by simpa using hv
          have := fw o ho
          have := h.up
          exact ⟨by omega, by omega, hnot (by omega)⟩
      · rw [b4.2 y (by have := h.up; omega) (by omega), b3.2 y (by have := h.up; omega) (fun e => by have := (h.ft y e).1; omega), u2.2 y (by have := h.up; omega), h.old y hy]
    rcases ih (i + 1) M4 _ _ (by omega) hMk with ⟨r1, M', r2, r3⟩ | ⟨r1, M', tl', vs', r2, r3⟩
    · exact .inl ⟨r1, M', hE.trans r2, r3⟩
    · exact .inr ⟨r1, M', tl', vs', hE.trans r2, r3⟩
theorem New_C (H : GS false KI M0 M role hs cur gs ds) (s0 : hs[0]? = some s) (hc : cur[0]? = some (some g)) (hd' : ds[g]? = some d) {ta : Option (Nat × Nat)} {l : Nat} {tc : Cap} {tvs : List SlV} (ht : Sl M 1 encS ta l tc tvs) (hT : Tbs M tvs tabs) (h64 : ∀ T ∈ tabs, T.length ≤ 2 ^ 43) (hl : l ≤ 2 ^ 40)
    {fa : Option (Nat × Nat)} {fl : Nat} {fc : Cap} {dvs : List SlV} (hf : Sl M 1 encF fa fl fc dvs) (hfl : fl ≤ 2 ^ 40) (hdl : dvs.length = scr.length) (hdv : ∀ (i : Nat) (w : SlV) (L : List Deed), dvs[i]? = some w → scr[i]? = some L → DS M role w.1 w.2.1 w.2.2 L) (okS : ∀ L ∈ scr, L.length ≤ 1048576 ∧ ∀ d ∈ L, DeedOk d ∧ d.2.2.length ≤ 1048576) :
    ∃ (M' : Mem) (role' : Nat → Rj), M.Upto M' ∧ GS false KI M0 M' role' hs cur gs ds ∧ Fj false role role' M M' ∧
      ((newE tabs scr.length ≠ 0 ∧ C 15 [.ptr (some (s, 0)), .sl ta l tc, .sl fa fl fc] M = some (.tup [.ptr none, .int .i64 (newE tabs scr.length)], M')) ∨
       (newE tabs scr.length = 0 ∧ ∃ hd, C 15 [.ptr (some (s, 0)), .sl ta l tc, .sl fa fl fc] M = some (.tup [.ptr (some (hd, 0)), .int .i64 0], M') ∧ M.n ≤ hd ∧ Hd M0 M' role' hs cur gs ds hd s tabs scr [] (-1))) := by
  have hE := p15_0_eq C prog.meth (some (s, 0)) ta l tc fa fl fc M
  have al := alive0_C H s0 hc hd'
  have hlt : tabs.length = l := by rw [← hT.1]; exact ht.2
  have hfls : fl = scr.length := by rw [← hdl]; exact hf.2.symm
  simp only [int?_int, rvs, Int.reduceBEq, Int.reduceBNe, Int.cast_ofNat_Int, al] at hE
  unfold newE
  by_cases h4 : 4 < tabs.length
  · have q : ((l : Int) > 4) := by omega
    simp only [q, decide_true, cond_true] at hE
    rw [if_pos h4]
    exact ⟨M, role, Mem.Upto.refl M, H, Fj.refl _ _ _, .inl ⟨by decide, c15 hE⟩⟩
  rw [if_neg h4]
  have q : ¬ ((l : Int) > 4) := by omega
  obtain ⟨M1, fv, k1, u1, fvl, fvo⟩ := CloneF_C encF1 hf hfl
  obtain ⟨M2, e2, g2, u2, n2⟩ := alloc_at M1 ⟨[.ptr (some (s, 0)), .sl none 0 (.known 0), .sl fv.1 fv.2.1 fv.2.2, .sl none 0 (.known 0), .int .i64 (-1)], .fixed⟩
  simp only [q, decide_false, cond_false, k1, Option.bind_some, AVal.sl?, e2] at hE
  have hn1 := u1.1
  have mk0 : Mk M2 M2 M1.n s fv (none, 0, .known 0) [] (tabs.take 0) := ⟨g2, Tail.nil _ _ _, Tbs.nil _, fun o ho => by simp [fpOf] at ho, fun v hv => by simp at hv, Nat.le_refl _, fun _ _ => rfl⟩
  have harg : ∀ Mx, M2.n ≤ Mx.n → (∀ y, y < M1.n → Mx.get y = M2.get y) → Sl Mx 1 encS ta l tc tvs ∧ Tbs Mx tvs tabs := fun Mx h1 h2 => by
    have hu : M.Upto Mx := ⟨by omega, fun o ho => by rw [h2 o (by omega), u2.2 o (by omega), u1.2 o ho]⟩
    exact ⟨ht.upto encS1 (by omega) hu, hT.upto hu⟩
  have fin : ∀ Mx, M2.n ≤ Mx.n → (∀ y, y < M1.n → Mx.get y = M2.get y) → M.Upto Mx := fun Mx h1 h2 => ⟨by omega, fun o ho => by rw [h2 o (by omega), u2.2 o (by omega), u1.2 o ho]⟩
  rcases new_loop (fa := fa) (fl := fl) (fc := fc) (s := s) (fv := fv) (hd := M1.n) (by omega) (by omega) hlt harg h64 l 0 M2 (none, 0, .known 0) [] (by omega) mk0 with ⟨r1, M', r2, r3, r4⟩ | ⟨r1, M', tl, vs, r2, mk⟩
  · rw [List.drop_zero] at r1 r2
    rw [if_pos r1]
    have hu := fin M' r3 r4
    exact ⟨M', _, hu, H.extK 0 hu, Fj.extK 0 role hu, .inl ⟨r1, c15 (hE.trans r2)⟩⟩
  · rw [List.drop_zero] at r1
    rw [if_neg (by rw [r1]; decide)]
    have hu := fin M' mk.up mk.old
    have hF := p15_1_eq C prog.meth fa fl fc (some (M1.n, 0)) ta l tc (l : Int) (l : Int) M'
    have q2 : ¬ ((l : Int) < (l : Int)) := by omega
    simp only [q2, decide_false, cond_false] at hF
    by_cases h8 : 8 < scr.length
    · have q3 : ((fl : Int) > 8) := by omega
      simp only [q3, decide_true, cond_true] at hF
      rw [if_pos h8]
      exact ⟨M', _, hu, H.extK 0 hu, Fj.extK 0 role hu, .inl ⟨by decide, c15 (hE.trans (r2.trans hF))⟩⟩
    have q3 : ¬ ((fl : Int) > 8) := by omega
    simp only [q3, decide_false, cond_false] at hF
    rw [if_neg h8]
    let R : Nat → Rj := fun y => if y < M.n then role y else if y = M1.n then .other 1 else .other 4
    have rl : ∀ y, y < M.n → R y = role y := fun y hy => if_pos hy
    have r1' : R M1.n = .other 1 := by
      show (if M1.n < M.n then role M1.n else if M1.n = M1.n then Rj.other 1 else .other 4) = _
      rw [if_neg (by omega), if_pos rfl]
    have r4' : ∀ y, M.n ≤ y → y ≠ M1.n → R y = .other 4 := fun y h1 h2 => by
      show (if y < M.n then role y else if y = M1.n then Rj.other 1 else .other 4) = _
      rw [if_neg (by omega), if_neg h2]
    have F : Fj false role R M M' := ⟨hu.1, fun y hy _ => hu.2 y hy, rl⟩
    have I' : GS false KI M0 M' R hs cur gs ds := H.frame (H.up.trans hu) (fun y hy _ => hu.2 y hy) rl
    have up0 := H.up.1
    refine ⟨M', R, hu, I', F, .inr ⟨rfl, M1.n, c15 (hE.trans (r2.trans hF)), hn1, ⟨I', s0, r1', by omega, ⟨tl, fv, (none, 0, .known 0), [], mk.gh, ?_, ⟨by omega, fun k hk => ?_⟩, Tail.nil _ _ _, fun o ho => by simp [fpOf] at ho, fun _ _ _ => rfl⟩, ⟨by omega, firstBad_zero r1⟩, ⟨by omega, okS⟩, by simp⟩⟩⟩
    · intro M5 h5 hg5
      refine ⟨vs, mk.tt.sl.same (fun p hp => hg5 p.1 ?_ ?_), mk.tb.1, fun j v T h1 h2 => Sl.fp (mk.tb.2 j v T h1 h2) (fun o ho => ?_)⟩
      · exact (mk.ft p.1 (by rw [hp]; simp [fpOf])).2
      · have := (mk.ft p.1 (by rw [hp]; simp [fpOf])).1
        exact r4' _ (by omega) (by omega)
      · obtain ⟨f1, f2, f3⟩ := mk.fs v (List.mem_of_getElem? h1) o ho
        exact hg5 o f2 (r4' o (by omega) (by omega))
    · have hk' : k < dvs.length := by omega
      have hds := hdv k (dvs[k]'hk') (scr[k]'hk) (List.getElem?_eq_getElem hk') (List.getElem?_eq_getElem hk)
      obtain ⟨o, o1, o2, o3, o4⟩ := fvo (by omega)
      have ho' : o < M1.n := Mem.get_lt o3
      refine ⟨(o, 0), dvs[k]'hk', by rw [o1, o2]; rfl, fun M5 h5 hg5 => ?_, hds.fo F.fo⟩
      have g5 : M5.get o = some ⟨dvs.flatMap encF, .grow 1⟩ := by
        rw [hg5 o (by have := mk.up; omega) (r4' o o4 (by omega)), mk.old o ho', u2.2 o ho']; exact o3
      have hw := Sl.whole (c := .unk 0) encF1 g5 (by simp) rfl
      obtain ⟨p, hp, hv⟩ := hw.get encF1 (by omega) (i := k) (by omega)
      obtain rfl : (o, 0) = p := Option.some.inj hp
      have := hv 0 (by omega)
      rw [Nat.add_zero] at this
      unfold Mem.ldN
      simp only
      rw [this]; rfl
theorem New_bad_C (H : GS false KI M0 M role hs cur gs ds) (s0 : hs[0]? = some s) (hc : cur[0]? = some (some g)) (hd' : ds[g]? = some d) {ta : Option (Nat × Nat)} {l : Nat} {tc : Cap} {tvs : List SlV} (ht : Sl M 1 encS ta l tc tvs) (hT : Tbs M tvs tabs) (h64 : ∀ T ∈ tabs, T.length ≤ 2 ^ 43) (hl : l ≤ 2 ^ 40)
    {α : Type} {enc : α → List AVal} (he : Enc 1 enc) {fa : Option (Nat × Nat)} {fl : Nat} {fc : Cap} {dvs : List α} (hf : Sl M 1 enc fa fl fc dvs) (hfl : fl ≤ 2 ^ 40) (hbad : newE tabs fl ≠ 0) :
    ∃ (M' : Mem), M.Upto M' ∧ C 15 [.ptr (some (s, 0)), .sl ta l tc, .sl fa fl fc] M = some (.tup [.ptr none, .int .i64 (newE tabs fl)], M') := by
  have hE := p15_0_eq C prog.meth (some (s, 0)) ta l tc fa fl fc M
  have al := alive0_C H s0 hc hd'
  have hlt : tabs.length = l := by rw [← hT.1]; exact ht.2
  simp only [int?_int, rvs, Int.reduceBEq, Int.reduceBNe, Int.cast_ofNat_Int, al] at hE
  unfold newE at *
  by_cases h4 : 4 < tabs.length
  · have q : ((l : Int) > 4) := by omega
    simp only [q, decide_true, cond_true] at hE
    rw [if_pos h4]
    exact ⟨M, Mem.Upto.refl _, c15 hE⟩
  rw [if_neg h4] at hbad ⊢
  have q : ¬ ((l : Int) > 4) := by omega
  obtain ⟨M1, fv, k1, u1, fvl, fvo⟩ := CloneF_C he hf hfl
  obtain ⟨M2, e2, g2, u2, n2⟩ := alloc_at M1 ⟨[.ptr (some (s, 0)), .sl none 0 (.known 0), .sl fv.1 fv.2.1 fv.2.2, .sl none 0 (.known 0), .int .i64 (-1)], .fixed⟩
  simp only [q, decide_false, cond_false, k1, Option.bind_some, AVal.sl?, e2] at hE
  have hn1 := u1.1
  have mk0 : Mk M2 M2 M1.n s fv (none, 0, .known 0) [] (tabs.take 0) := ⟨g2, Tail.nil _ _ _, Tbs.nil _, fun o ho => by simp [fpOf] at ho, fun v hv => by simp at hv, Nat.le_refl _, fun _ _ => rfl⟩
  have harg : ∀ Mx, M2.n ≤ Mx.n → (∀ y, y < M1.n → Mx.get y = M2.get y) → Sl Mx 1 encS ta l tc tvs ∧ Tbs Mx tvs tabs := fun Mx h1 h2 => by
    have hu : M.Upto Mx := ⟨by omega, fun o ho => by rw [h2 o (by omega), u2.2 o (by omega), u1.2 o ho]⟩
    exact ⟨ht.upto encS1 (by omega) hu, hT.upto hu⟩
  have fin : ∀ Mx, M2.n ≤ Mx.n → (∀ y, y < M1.n → Mx.get y = M2.get y) → M.Upto Mx := fun Mx h1 h2 => ⟨by omega, fun o ho => by rw [h2 o (by omega), u2.2 o (by omega), u1.2 o ho]⟩
  rcases new_loop (fa := fa) (fl := fl) (fc := fc) (s := s) (fv := fv) (hd := M1.n) (by omega) (by omega) hlt harg h64 l 0 M2 (none, 0, .known 0) [] (by omega) mk0 with ⟨r1, M', r2, r3, r4⟩ | ⟨r1, M', tl, vs, r2, mk⟩
  · rw [List.drop_zero] at r1 r2
    rw [if_pos r1]
    exact ⟨M', fin M' r3 r4, c15 (hE.trans r2)⟩
  · rw [List.drop_zero] at r1
    rw [if_neg (by rw [r1]; decide)] at hbad ⊢
    have hF := p15_1_eq C prog.meth fa fl fc (some (M1.n, 0)) ta l tc (l : Int) (l : Int) M'
    have q2 : ¬ ((l : Int) < (l : Int)) := by omega
    simp only [q2, decide_false, cond_false] at hF
    by_cases h8 : 8 < fl
    · have q3 : ((fl : Int) > 8) := by omega
      simp only [q3, decide_true, cond_true] at hF
      rw [if_pos h8]
      exact ⟨M', fin M' mk.up mk.old, c15 (hE.trans (r2.trans hF))⟩
    · rw [if_neg h8] at hbad; exact absurd rfl hbad
end
end Go.Proofs.Ytidofnpfeibbfaa.M
set_option linter.unusedVariables false
set_option linter.unusedSimpArgs false
set_option linter.unnecessarySimpa false
set_option maxRecDepth 100000
namespace Go.Proofs.Ytidofnpfeibbfaa.M
open Go.Abs Go.RowKit
section
variable {M0 M M' : Mem} {role role' : Nat → Rj} {hs : List Nat} {cur cur' : List (Option Nat)} {gs gs' : List Gp} {ds ds' : List Dt} {h i g N : Nat} {d : Dt} {hd s : Nat} {tabs : List (List Pr)} {scr : List (List Deed)} {cl : List (Int × List Int)} {to : Int}
theorem Cps.at {vs : List (Int × SlV)} (h : Cps M vs cl) {i : Nat} (hi : i < cl.length) : ∃ (hv : i < vs.length), vs[i].1 = cl[i].1 ∧ M.bytesAt vs[i].2 = some cl[i].2 := by
  have hl := h.length
  have hv : i < vs.length := by omega
  have := congrArg (fun l => l[i]?) h
  simp only [List.getElem?_map, List.getElem?_eq_getElem hv, List.getElem?_eq_getElem hi, Option.map_some, Option.some.injEq, Prod.mk.injEq] at this
  exact ⟨hv, this⟩
theorem Cps.same {vs : List (Int × SlV)} (h : Cps M vs cl) (hg : ∀ v ∈ vs, ∀ o ∈ fpS v.2, M'.get o = M.get o) : Cps M' vs cl := by
  unfold Cps at *
  rw [← h]
  exact List.map_congr_left fun v hv => by rw [bytesAt_same (hg v hv)]
theorem Cps.lt {vs : List (Int × SlV)} (h : Cps M vs cl) : ∀ v ∈ vs, ∀ o ∈ fpS v.2, o < M.n := fun v hv o ho => by
  obtain ⟨i, hi, rfl⟩ := List.mem_iff_getElem.1 hv
  obtain ⟨_, _, e⟩ := h.at (i := i) (by rw [← h.length]; exact hi)
  exact bytesAt_lt e o ho
theorem Clones_C (H : Hd M0 M role hs cur gs ds hd s tabs scr cl to) (h47 : ∀ c ∈ cl, c.2.length ≤ 2 ^ 47) : ∃ (M' : Mem) (ov : SlV) (vs : List (Int × SlV)), C 23 [.ptr (some (hd, 0))] M = some (.sl ov.1 ov.2.1 ov.2.2, M') ∧ M.Upto M' ∧ Sl M' 2 encC ov.1 ov.2.1 ov.2.2 vs ∧ Cps M' vs cl := by
  have hE := p23_0_eq C prog.meth (some (hd, 0)) M
  obtain ⟨tv, fv, cv, vs, gh, t4, f4, tl, hl, c3⟩ := H.obj
  have hth := p46_0_eq C prog.meth (some (hd, 0)) M
  simp only [int?_int, rvs, Int.reduceBEq, Int.reduceBNe, Int.cast_ofNat_Int, Nat.zero_add, ldP_at gh] at hth
  simp only [c46 hth, int?_int, rvs, Int.reduceBEq, Int.reduceBNe, Int.cast_ofNat_Int, Nat.zero_add, ldL_at gh] at hE
  have c0 := c3.now
  have hlen : cv.2.1 = cl.length := by rw [← tl.length]; exact c0.length
  have hc8 := H.okC
  have loop : ∀ (d i : Nat) (Mx : Mem) (ov : SlV) (ws : List (Int × SlV)), i + d = cl.length → M.Upto Mx → Tail Mx 2 encC ov.1 ov.2.1 ov.2.2 ws → Cps Mx ws (cl.take i) → (∀ o ∈ fpOf ov.1, M.n ≤ o ∧ o < Mx.n) → (∀ v ∈ ws, ∀ o ∈ fpS v.2, M.n ≤ o ∧ o ∉ fpOf ov.1) →
      ∃ (M' : Mem) (ov' : SlV) (ws' : List (Int × SlV)), p23_1 C prog.meth ov.1 ov.2.1 ov.2.2 cv.1 cv.2.1 cv.2.2 (cv.2.1 : Int) (i : Int) Mx = some (.sl ov'.1 ov'.2.1 ov'.2.2, M') ∧ M.Upto M' ∧ Sl M' 2 encC ov'.1 ov'.2.1 ov'.2.2 ws' ∧ Cps M' ws' cl := by
    intro d
    induction d with
    | zero =>
      intro i Mx ov ws hi hu ht hc _ _
      have hF := p23_1_eq C prog.meth ov.1 ov.2.1 ov.2.2 cv.1 cv.2.1 cv.2.2 (cv.2.1 : Int) (i : Int) Mx
      have q : ¬ ((i : Int) < (cv.2.1 : Int)) := by omega
      simp only [q, decide_false, cond_false] at hF
      rw [List.take_of_length_le (by omega)] at hc
      exact ⟨Mx, ov, ws, hF, hu, ht.sl, hc⟩
    | succ d ih =>
      intro i Mx ov ws hi hu ht hc hfp hws
      have hF := p23_1_eq C prog.meth ov.1 ov.2.1 ov.2.2 cv.1 cv.2.1 cv.2.2 (cv.2.1 : Int) (i : Int) Mx
      have q : ((i : Int) < (cv.2.1 : Int)) := by omega
      have k0 : (0 : Int) ≤ (i : Int) := by omega
      have k1 : Nat.blt i cv.2.1 = true := Mem.blt_iff.2 (by omega)
      have w1 : IntKind.wrap .i64 ((i : Int) + 1) = ((i + 1 : Nat) : Int) := by rw [wrap_i64 (by omega) (by omega)]; rfl
      obtain ⟨hv, e1, e2⟩ := c0.at (i := i) (by omega)
      obtain ⟨p, hp, hpv⟩ := (tl.sl.upto encC2 (by omega) hu).get encC2 (by omega) (i := i) (by omega)
      have v0 : Mx.ldI .i64 p.1 (p.2 + i * 2) = some (vs[i].1) := ldI_ld.2 (by have := hpv 0 (by omega); rw [Nat.add_zero] at this; exact this)
      have v1 : Mx.ldL p.1 (p.2 + i * 2 + 1) = some (vs[i].2) := by
        have := hpv 1 (by omega)
        rw [← Nat.add_assoc] at this
        unfold Mem.ldL
        rw [this]; rfl
      have b0 : Mx.bytesAt vs[i].2 = some cl[i].2 := bytesAt_upto e2 hu
      obtain ⟨Ma, ea, ga, ua, na⟩ := alloc_at Mx ⟨[.int .i64 0, .sl none 0 (.known 0)], .fixed⟩
      obtain ⟨Mb, sb, gb, nb, bb⟩ := st_at (i := 0) (vs := [.int .i64 vs[i].1, .sl vs[i].2.1 vs[i].2.2.1 vs[i].2.2.2]) ga (by simp)
      simp only [overL] at gb
      have ub : Mx.Upto Mb := ⟨by omega, fun o ho => by rw [bb.2 o (by omega) (by omega), ua.2 o ho]⟩
      have bB : Mb.bytesAt vs[i].2 = some cl[i].2 := bytesAt_upto b0 ub
      have hlt47 := h47 _ (List.getElem_mem (show i < cl.length by omega))
      have hbl := ints_length (show Mb.ints .u8 vs[i].2.1 vs[i].2.2.1 vs[i].2.2.2 = some cl[i].2 from bB)
      obtain ⟨Mc, w, kc, uc, ow, fw, _⟩ := Clone_F bB (by omega)
      have gc := uc.get gb
      have st : Mc.still Mx.n 0 [.int .i64 vs[i].1] = true := still1 (by rw [ld_fix gc]; rfl)
      have hl2 := ht.length
      have hcl := hc.length
      rw [List.length_take, Nat.min_eq_left (by omega)] at hcl
      have n1 := ub.1
      have n2 := uc.1
      obtain ⟨Md, kd, td, nd, bd, gd⟩ := Tail.push (bytes := 32) (y := ((vs[i].1, w) : Int × SlV)) (cs := [.int .i64 vs[i].1, .sl w.1 w.2.1 w.2.2]) (ht.same (M' := Mc) (fun o ho => by rw [uc.2 o (by have := (hfp o ho).2; omega), ub.2 o (hfp o ho).2])) encC2 (by omega) rfl (by omega) (fun o ho => by have := (hfp o ho).2; omega)
      have l0 : Mb.ldI .i64 Mx.n 0 = some vs[i].1 := by rw [ldI_at gb]; simp
      have l1 : Mb.ldL Mx.n 1 = some vs[i].2 := by rw [ldL_at gb]; rfl
      simp only [int?_int, rvs, Int.reduceBEq, Int.reduceBNe, Int.cast_ofNat_Int, q, k0, k1, Int.toNat_natCast, hp, v0, v1, ea, sb, l0, l1, kc] at hF
      rw [kd] at hF
      simp only [int?_int, rvs, Int.reduceBEq, Int.reduceBNe, Int.cast_ofNat_Int, st, w1] at hF
      have hu0 := hu.1
      have uM : M.Upto Md := ⟨by omega, fun o ho => by rw [bd.2 o (by omega) (fun e => by have := (hfp o e).1; omega), uc.2 o (by omega), ub.2 o (by omega), hu.2 o ho]⟩
      have keep : ∀ o, o < Mc.n → o ∉ fpOf ov.1 → Md.get o = Mc.get o := fun o h1 h2 => bd.2 o h1 h2
      have hwl : ∀ o ∈ fpS w, o < Mc.n := bytesAt_lt (show Mc.bytesAt w = some cl[i].2 from ow.ints)
      have cN : Cps Md (ws ++ [((vs[i].1, w) : Int × SlV)]) (cl.take (i + 1)) := by
        rw [List.take_add_one, List.getElem?_eq_getElem (show i < cl.length by omega)]
        have e3 : cl[i] = (vs[i].1, cl[i].2) := by rw [e1]
        rw [e3]
        refine Cps.snoc (hc.same (fun v hv o ho => ?_)) ?_
        · have h1 := hc.lt v hv o ho
          have h2 := (hws v hv o ho).2
          rw [keep o (by omega) h2, uc.2 o (by omega), ub.2 o h1]
        · rw [bytesAt_same (fun o ho => keep o (hwl o ho) (fun e => by have := fw o ho; have := (hfp o e).2; omega))]
          exact ow.ints
      obtain ⟨M', ov', ws', r1, r2, r3, r4⟩ := ih (i + 1) Md (some (Mc.n + 1, 0), ov.2.1 + 1, .unk 0) _ (by omega) uM td cN (fun o ho => by
        simp only [fpOf, List.mem_singleton] at ho
        subst ho; omega) (fun v hv o ho => by
        have hn : o < Mc.n → o ∉ fpOf (some (Mc.n + 1, 0)) := fun h1 h2 => by simp only [fpOf, List.mem_singleton] at h2; omega
        rcases List.mem_append.1 hv with hv | hv
        · have h1 := hc.lt v hv o ho
          exact ⟨(hws v hv o ho).1, hn (by omega)⟩
        · obtain rfl : v = ((vs[i].1, w) : Int × SlV) := by simpa using hv
          exact ⟨by have := fw o ho; omega, hn (hwl o ho)⟩)
      exact ⟨M', ov', ws', hF.trans r1, r2, r3, r4⟩
  obtain ⟨M', ov', ws', r1, r2, r3, r4⟩ := loop cl.length 0 M (none, 0, .known 0) [] (by omega) (Mem.Upto.refl _) (Tail.nil _ _ _) rfl (fun o ho => by simp [fpOf] at ho) (fun v hv => by simp at hv)
  exact ⟨M', ov', ws', c23 (hE.trans r1), r2, r3, r4⟩
end
theorem callA_wf {tabs : List (List Pr)} {scr : List (List Deed)} {σ : HSt} (h : wfB σ.B) (hS : ∀ L ∈ scr, ∀ d ∈ L, DeedOk d) (id : Int) (x y z : Nat) : wfB (callA tabs scr σ id x y z).2.2.B := by
  unfold callA; split
  · exact h
  · exact helpA_wf h hS _ _ _ _
end Go.Proofs.Ytidofnpfeibbfaa.M
set_option linter.unusedVariables false
set_option linter.unusedSimpArgs false
set_option linter.unnecessarySimpa false
set_option maxRecDepth 100000
namespace Go.Proofs.Ytidofnpfeibbfaa.M
open Go.Abs Go.RowKit
abbrev KRow := Int × Nat × Nat × Nat × Int
def kT : List KRow := [(1, 1, 2, 0, 515), (1, 3, 2, 0, 0), (2, 0, 1, 9, 1), (2, 0, 9, 1, 0), (3, 2, 0, 0, 1), (3, 18446744073709551613, 0, 0, 1), (4, 18446744073709551607, 0, 0, 0), (4, 1, 0, 0, 1), (5, 0, 2, 1025, 1), (8, 0, 7, 0, 2), (8, 0, 8, 0, 0), (16, 0, 2, 5, 0), (6, 3, 0, 0, 1), (6, 8, 0, 0, 0), (7, 5, 0, 0, 1), (7, 9, 0, 0, 0), (1, 0, 4, 0, 33686529), (1, 0, 0, 0, 0), (1, 18446744073709551615, 2, 0, 0), (2, 4, 1, 0, 0), (5, 0, 1, 7, 0), (5, 2, 2, 7, 0), (5, 0, 2, 1025, 1)]
def kS : List HSt := [⟨[1, 2, 3, 4], [], (-1)⟩, ⟨[1, 2, 3, 4], [], (-1)⟩, ⟨[1, 2, 3, 4], [], (-1)⟩, ⟨[9, 2, 3, 4], [], (-1)⟩, ⟨[9, 2, 3, 4], [], (-1)⟩, ⟨[0, 0, 9, 2, 3, 4], [], (-1)⟩, ⟨[2, 3, 4], [], (-1)⟩, ⟨[2, 3, 4], [], (-1)⟩, ⟨[2, 3, 4, 0], [], (-1)⟩, ⟨[2, 2, 4, 1], [], (-1)⟩, ⟨[2, 2, 4, 1], [], (-1)⟩, ⟨[2, 2, 4, 1], [], (-1)⟩, ⟨[2, 2, 4, 1], [], (-1)⟩, ⟨[2, 2, 4, 1], [(3, [2, 2, 4, 1])], (-1)⟩, ⟨[2, 2, 4, 1], [(3, [2, 2, 4, 1])], (-1)⟩, ⟨[2, 2, 4, 1], [(3, [2, 2, 4, 1])], 5⟩, ⟨[2, 2, 4, 1], [(3, [2, 2, 4, 1])], 5⟩, ⟨[2, 2, 4, 1], [(3, [2, 2, 4, 1])], 5⟩, ⟨[2, 2, 4, 1], [(3, [2, 2, 4, 1])], 5⟩, ⟨[2, 2, 4, 1], [(3, [2, 2, 4, 1])], 5⟩, ⟨[2, 2, 4, 1], [(3, [2, 2, 4, 1])], 5⟩, ⟨[2, 2, 4, 1], [(3, [2, 2, 4, 1])], 5⟩, ⟨[2, 2, 4, 1], [(3, [2, 2, 4, 1])], 5⟩, ⟨[2, 2, 4, 1], [(3, [2, 2, 4, 1])], 5⟩]
def k7 : List (List Pr) := [[(7, 2)]]
theorem updN_mod {f o n : Nat} (hf : f ≤ 65535) (ho : o ≤ 65535) (hn : n ≤ 65535) : (updN f o n + n) % 65535 = (f + o) % 65535 := by
  have h := Classical.choose_spec (Update_C (M := Mem.empty) hf ho hn)
  unfold updN
  rw [dif_pos ⟨hf, ho, hn⟩]
  exact h.2.2
theorem upd1 : updN 515 1024 1025 = 514 := by
  have h1 := (updN_C (f := 515) (o := 1024) (n := 1025) (by omega) (by omega) (by omega)).2
  have h2 := updN_mod (f := 515) (o := 1024) (n := 1025) (by omega) (by omega) (by omega)
  omega
theorem upd2 : updN 514 1025 1025 = 514 := by
  have h1 := (updN_C (f := 514) (o := 1025) (n := 1025) (by omega) (by omega) (by omega)).2
  have h2 := updN_mod (f := 514) (o := 1025) (n := 1025) (by omega) (by omega) (by omega)
  omega
def KOk (i : Nat) (t : KRow) (σ σ' : HSt) : Prop := callA k7 [] σ t.1 t.2.1 t.2.2.1 t.2.2.2.1 = (t.2.2.2.2, 0, σ')
theorem kc0 : callA k7 [] ⟨[1, 2, 3, 4], [], (-1)⟩ 1 1 2 0 = (515, 0, ⟨[1, 2, 3, 4], [], (-1)⟩) := by kernel_rfl
theorem kc1 : callA k7 [] ⟨[1, 2, 3, 4], [], (-1)⟩ 1 3 2 0 = (0, 0, ⟨[1, 2, 3, 4], [], (-1)⟩) := by kernel_rfl
theorem kc2 : callA k7 [] ⟨[1, 2, 3, 4], [], (-1)⟩ 2 0 1 9 = (1, 0, ⟨[9, 2, 3, 4], [], (-1)⟩) := by kernel_rfl
theorem kc3 : callA k7 [] ⟨[9, 2, 3, 4], [], (-1)⟩ 2 0 9 1 = (0, 0, ⟨[9, 2, 3, 4], [], (-1)⟩) := by kernel_rfl
theorem kc4 : callA k7 [] ⟨[9, 2, 3, 4], [], (-1)⟩ 3 2 0 0 = (1, 0, ⟨[0, 0, 9, 2, 3, 4], [], (-1)⟩) := by kernel_rfl
theorem kc5 : callA k7 [] ⟨[0, 0, 9, 2, 3, 4], [], (-1)⟩ 3 18446744073709551613 0 0 = (1, 0, ⟨[2, 3, 4], [], (-1)⟩) := by kernel_rfl
theorem kc6 : callA k7 [] ⟨[2, 3, 4], [], (-1)⟩ 4 18446744073709551607 0 0 = (0, 0, ⟨[2, 3, 4], [], (-1)⟩) := by kernel_rfl
theorem kc7 : callA k7 [] ⟨[2, 3, 4], [], (-1)⟩ 4 1 0 0 = (1, 0, ⟨[2, 3, 4, 0], [], (-1)⟩) := by kernel_rfl
theorem kc8 : callA k7 [] ⟨[2, 3, 4, 0], [], (-1)⟩ 5 0 2 1025 = (1, 0, ⟨[2, 2, 4, 1], [], (-1)⟩) := by
  have h : callA k7 [] ⟨[2, 3, 4, 0], [], (-1)⟩ 5 0 2 1025 = (1, 0, ⟨fixB [2, 3, 4, 0] 0 2 1025 (updN 515 1024 1025), [], (-1)⟩) := by kernel_rfl
  rw [upd1] at h
  exact h.trans (by kernel_rfl)
theorem kc9 : callA k7 [] ⟨[2, 2, 4, 1], [], (-1)⟩ 8 0 7 0 = (2, 0, ⟨[2, 2, 4, 1], [], (-1)⟩) := by kernel_rfl
theorem kc10 : callA k7 [] ⟨[2, 2, 4, 1], [], (-1)⟩ 8 0 8 0 = (0, 0, ⟨[2, 2, 4, 1], [], (-1)⟩) := by kernel_rfl
theorem kc11 : callA k7 [] ⟨[2, 2, 4, 1], [], (-1)⟩ 16 0 2 5 = (0, 0, ⟨[2, 2, 4, 1], [], (-1)⟩) := by kernel_rfl
theorem kc12 : callA k7 [] ⟨[2, 2, 4, 1], [], (-1)⟩ 6 3 0 0 = (1, 0, ⟨[2, 2, 4, 1], [(3, [2, 2, 4, 1])], (-1)⟩) := by kernel_rfl
theorem kc13 : callA k7 [] ⟨[2, 2, 4, 1], [(3, [2, 2, 4, 1])], (-1)⟩ 6 8 0 0 = (0, 0, ⟨[2, 2, 4, 1], [(3, [2, 2, 4, 1])], (-1)⟩) := by kernel_rfl
theorem kc14 : callA k7 [] ⟨[2, 2, 4, 1], [(3, [2, 2, 4, 1])], (-1)⟩ 7 5 0 0 = (1, 0, ⟨[2, 2, 4, 1], [(3, [2, 2, 4, 1])], 5⟩) := by kernel_rfl
theorem kc15 : callA k7 [] ⟨[2, 2, 4, 1], [(3, [2, 2, 4, 1])], 5⟩ 7 9 0 0 = (0, 0, ⟨[2, 2, 4, 1], [(3, [2, 2, 4, 1])], 5⟩) := by kernel_rfl
theorem kc16 : callA k7 [] ⟨[2, 2, 4, 1], [(3, [2, 2, 4, 1])], 5⟩ 1 0 4 0 = (33686529, 0, ⟨[2, 2, 4, 1], [(3, [2, 2, 4, 1])], 5⟩) := by kernel_rfl
theorem kc17 : callA k7 [] ⟨[2, 2, 4, 1], [(3, [2, 2, 4, 1])], 5⟩ 1 0 0 0 = (0, 0, ⟨[2, 2, 4, 1], [(3, [2, 2, 4, 1])], 5⟩) := by kernel_rfl
theorem kc18 : callA k7 [] ⟨[2, 2, 4, 1], [(3, [2, 2, 4, 1])], 5⟩ 1 18446744073709551615 2 0 = (0, 0, ⟨[2, 2, 4, 1], [(3, [2, 2, 4, 1])], 5⟩) := by kernel_rfl
theorem kc19 : callA k7 [] ⟨[2, 2, 4, 1], [(3, [2, 2, 4, 1])], 5⟩ 2 4 1 0 = (0, 0, ⟨[2, 2, 4, 1], [(3, [2, 2, 4, 1])], 5⟩) := by kernel_rfl
theorem kc20 : callA k7 [] ⟨[2, 2, 4, 1], [(3, [2, 2, 4, 1])], 5⟩ 5 0 1 7 = (0, 0, ⟨[2, 2, 4, 1], [(3, [2, 2, 4, 1])], 5⟩) := by kernel_rfl
theorem kc21 : callA k7 [] ⟨[2, 2, 4, 1], [(3, [2, 2, 4, 1])], 5⟩ 5 2 2 7 = (0, 0, ⟨[2, 2, 4, 1], [(3, [2, 2, 4, 1])], 5⟩) := by kernel_rfl
theorem kc22 : callA k7 [] ⟨[2, 2, 4, 1], [(3, [2, 2, 4, 1])], 5⟩ 5 0 2 1025 = (1, 0, ⟨[2, 2, 4, 1], [(3, [2, 2, 4, 1])], 5⟩) := by
  have h : callA k7 [] ⟨[2, 2, 4, 1], [(3, [2, 2, 4, 1])], 5⟩ 5 0 2 1025 = (1, 0, ⟨fixB [2, 2, 4, 1] 0 2 1025 (updN 514 1025 1025), [(3, [2, 2, 4, 1])], 5⟩) := by kernel_rfl
  rw [upd2] at h
  exact h.trans (by kernel_rfl)
theorem kall (i : Nat) (hi : i < 23) : ∃ (t : KRow) (σ σ' : HSt), kT[i]? = some t ∧ kS[i]? = some σ ∧ kS[i + 1]? = some σ' ∧ KOk i t σ σ' ∧ (-2147483648 ≤ t.1 ∧ t.1 < 2147483648) ∧ t.2.1 < 2 ^ 64 ∧ t.2.2.1 < 2 ^ 64 := by
  have h : i = 0 ∨ i = 1 ∨ i = 2 ∨ i = 3 ∨ i = 4 ∨ i = 5 ∨ i = 6 ∨ i = 7 ∨ i = 8 ∨ i = 9 ∨ i = 10 ∨ i = 11 ∨ i = 12 ∨ i = 13 ∨ i = 14 ∨ i = 15 ∨ i = 16 ∨ i = 17 ∨ i = 18 ∨ i = 19 ∨ i = 20 ∨ i = 21 ∨ i = 22 := by omega
  rcases h with rfl | rfl | rfl | rfl | rfl | rfl | rfl | rfl | rfl | rfl | rfl | rfl | rfl | rfl | rfl | rfl | rfl | rfl | rfl | rfl | rfl | rfl | rfl
  · exact ⟨_, _, _, rfl, rfl, rfl, kc0, ⟨by simp only; omega, by simp only; omega⟩, by simp only; omega, by simp only; omega⟩
  · exact ⟨_, _, _, rfl, rfl, rfl, kc1, ⟨by simp only; omega, by simp only; omega⟩, by simp only; omega, by simp only; omega⟩
  · exact ⟨_, _, _, rfl, rfl, rfl, kc2, ⟨by simp only; omega, by simp only; omega⟩, by simp only; omega, by simp only; omega⟩
  · exact ⟨_, _, _, rfl, rfl, rfl, kc3, ⟨by simp only; omega, by simp only; omega⟩, by simp only; omega, by simp only; omega⟩
  · exact ⟨_, _, _, rfl, rfl, rfl, kc4, ⟨by simp only; omega, by simp only; omega⟩, by simp only; omega, by simp only; omega⟩
  · exact ⟨_, _, _, rfl, rfl, rfl, kc5, ⟨by simp only; omega, by simp only; omega⟩, by simp only; omega, by simp only; omega⟩
  · exact ⟨_, _, _, rfl, rfl, rfl, kc6, ⟨by simp only; omega, by simp only; omega⟩, by simp only; omega, by simp only; omega⟩
  · exact ⟨_, _, _, rfl, rfl, rfl, kc7, ⟨by simp only; omega, by simp only; omega⟩, by simp only; omega, by simp only; omega⟩
  · exact ⟨_, _, _, rfl, rfl, rfl, kc8, ⟨by simp only; omega, by simp only; omega⟩, by simp only; omega, by simp only; omega⟩
  · exact ⟨_, _, _, rfl, rfl, rfl, kc9, ⟨by simp only; omega, by simp only; omega⟩, by simp only; omega, by simp only; omega⟩
  · exact ⟨_, _, _, rfl, rfl, rfl, kc10, ⟨by simp only; omega, by simp only; omega⟩, by simp only; omega, by simp only; omega⟩
  · exact ⟨_, _, _, rfl, rfl, rfl, kc11, ⟨by simp only; omega, by simp only; omega⟩, by simp only; omega, by simp only; omega⟩
  · exact ⟨_, _, _, rfl, rfl, rfl, kc12, ⟨by simp only; omega, by simp only; omega⟩, by simp only; omega, by simp only; omega⟩
  · exact ⟨_, _, _, rfl, rfl, rfl, kc13, ⟨by simp only; omega, by simp only; omega⟩, by simp only; omega, by simp only; omega⟩
  · exact ⟨_, _, _, rfl, rfl, rfl, kc14, ⟨by simp only; omega, by simp only; omega⟩, by simp only; omega, by simp only; omega⟩
  · exact ⟨_, _, _, rfl, rfl, rfl, kc15, ⟨by simp only; omega, by simp only; omega⟩, by simp only; omega, by simp only; omega⟩
  · exact ⟨_, _, _, rfl, rfl, rfl, kc16, ⟨by simp only; omega, by simp only; omega⟩, by simp only; omega, by simp only; omega⟩
  · exact ⟨_, _, _, rfl, rfl, rfl, kc17, ⟨by simp only; omega, by simp only; omega⟩, by simp only; omega, by simp only; omega⟩
  · exact ⟨_, _, _, rfl, rfl, rfl, kc18, ⟨by simp only; omega, by simp only; omega⟩, by simp only; omega, by simp only; omega⟩
  · exact ⟨_, _, _, rfl, rfl, rfl, kc19, ⟨by simp only; omega, by simp only; omega⟩, by simp only; omega, by simp only; omega⟩
  · exact ⟨_, _, _, rfl, rfl, rfl, kc20, ⟨by simp only; omega, by simp only; omega⟩, by simp only; omega, by simp only; omega⟩
  · exact ⟨_, _, _, rfl, rfl, rfl, kc21, ⟨by simp only; omega, by simp only; omega⟩, by simp only; omega, by simp only; omega⟩
  · exact ⟨_, _, _, rfl, rfl, rfl, kc22, ⟨by simp only; omega, by simp only; omega⟩, by simp only; omega, by simp only; omega⟩
end Go.Proofs.Ytidofnpfeibbfaa.M
set_option linter.unusedVariables false
set_option linter.unusedSimpArgs false
set_option linter.unnecessarySimpa false
set_option maxRecDepth 100000
namespace Go.Proofs.Ytidofnpfeibbfaa.M
open Go.Abs Go.RowKit
section
variable {M0 M M' : Mem} {role role' : Nat → Rj} {hs : List Nat} {cur cur' : List (Option Nat)} {gs gs' : List Gp} {ds ds' : List Dt} {h i g N : Nat} {d : Dt} {hd s ot : Nat} {tabs : List (List Pr)} {scr : List (List Deed)} {cl : List (Int × List Int)} {to : Int} {B P : List Int} {wl : List (List Int)} {wv : SlV}
theorem Hd.frame (H : Hd M0 M role hs cur gs ds hd s tabs scr cl to) (hn : M.n ≤ M'.n) (hu : M0.Upto M') (hg : ∀ y, y < M.n → role y ≠ .other 5 → M'.get y = M.get y) (hr : ∀ y, y < M.n → role' y = role y) : Hd M0 M' role' hs cur gs ds hd s tabs scr cl to := by
  obtain ⟨tv, fv, cv, vs, gh, t4, f4, tl, hl, c3⟩ := H.obj
  have hlt := Mem.get_lt gh
  have st : ∀ k, k ≠ 5 → ∀ P : Mem → Prop, Sta k M role P → Sta k M' role' P := fun k hk P h => h.next hn (fun o ho hro => hg o ho (by rw [hro]; intro e; cases e; exact hk rfl)) hr
  have I' : GS false KI M0 M' role' hs cur gs ds := H.I.frame hu (fun y hy hs => hg y hy (fun e => by rw [e] at hs; cases hs)) hr
  have ds4 : ∀ {a l c L}, DS M role a l c L → DS M' role' a l c L := fun h => ⟨h.len, fun i hi => by
    obtain ⟨p, v, h1, h2⟩ := h.at_ i hi
    exact ⟨p, v, h1, st 4 (by decide) _ h2⟩⟩
  exact ⟨I', H.s0, (hr hd hlt).trans H.rh, H.hM, ⟨tv, fv, cv, vs, (hg hd hlt (by rw [H.rh]; exact nofun)).trans gh, st 4 (by decide) _ t4, ⟨f4.len, fun k hk => by
    obtain ⟨p, v, h1, h2, h3⟩ := f4.at_ k hk
    exact ⟨p, v, h1, st 4 (by decide) _ h2, ds4 h3⟩⟩, tl.same (fun o ho => hg o (hl o ho).1 (by rw [(hl o ho).2.1]; exact nofun)), fun o ho => ⟨by have := (hl o ho).1; omega, (hr o (hl o ho).1).trans (hl o ho).2.1, (hl o ho).2.2⟩, st 3 (by decide) _ c3⟩, H.okT, H.okS, H.okC⟩
structure W6 (M0 M : Mem) (role : Nat → Rj) (hs : List Nat) (cur : List (Option Nat)) (gs : List Gp) (ds : List Dt) (hd s ot : Nat) (tabs : List (List Pr)) (scr : List (List Deed)) (cl : List (Int × List Int)) (to : Int) (B P : List Int) (wl : List (List Int)) (wv : SlV) (N : Nat) : Prop where
  H : Hd M0 M role hs cur gs ds hd s tabs scr cl to
  h1 : hs[1]? = some ot
  me : ∃ g d, cur[0]? = some (some g) ∧ ds[g]? = some d ∧ d.B = B ∧ d.mv ≤ N
  oth : ∃ c, cur[1]? = some c ∧ bytesO ds c = P
  wt : ∃ ws, Tail M 1 encS wv.1 wv.2.1 wv.2.2 ws ∧ (∀ o ∈ fpOf wv.1, o < M.n ∧ role o = .other 5 ∧ M0.n ≤ o) ∧ Sta 6 M role (fun M => Pks M ws wl)
  wf : wfB B
  cp : ∀ c ∈ cl, (0 ≤ c.1 ∧ c.1 < 8) ∧ c.2.length ≤ 2048
theorem W6.upto {N : Nat} (W : W6 M0 M role hs cur gs ds hd s ot tabs scr cl to B P wl wv N) (k : Nat) (hu : M.Upto M') : W6 M0 M' (extK k role M.n) hs cur gs ds hd s ot tabs scr cl to B P wl wv N := by
  obtain ⟨ws, w1, w2, w3⟩ := W.wt
  exact ⟨W.H.upto k hu, W.h1, W.me, W.oth, ⟨ws, w1.same (fun o ho => hu.2 o (w2 o ho).1), fun o ho => ⟨by have := (w2 o ho).1; have := hu.1; omega, (extK_lt (w2 o ho).1).trans (w2 o ho).2.1, (w2 o ho).2.2⟩, w3.fj (Fj.extK k role hu)⟩, W.wf, W.cp⟩
theorem W6.len {N : Nat} (W : W6 M0 M role hs cur gs ds hd s ot tabs scr cl to B P wl wv N) : wv.2.1 = wl.length := by
  obtain ⟨ws, w1, _, w3⟩ := W.wt
  rw [← w1.length]; exact w3.now.length
theorem W6.sz {N : Nat} (W : W6 M0 M role hs cur gs ds hd s ot tabs scr cl to B P wl wv N) : B.length ≤ 2048 := by
  obtain ⟨g, d, h1, h2, rfl, _⟩ := W.me
  exact W.H.I.sz W.H.s0 h1 h2
theorem W6.want {N : Nat} (W : W6 M0 M role hs cur gs ds hd s ot tabs scr cl to B P wl wv N) {w : SlV} {xs : List Int} (hw : Sta 6 M role (fun M => M.bytesAt w = some xs)) (h8 : wl.length ≤ 8) :
    ∃ (M' : Mem) (role' : Nat → Rj) (wv' : SlV), (∀ {β : Type} (K : Option (Nat × Nat) → Nat → Cap → Mem → Option β), appK false 1 24 (M.alloc ⟨[.sl w.1 w.2.1 w.2.2], .fixed⟩) wv.1 wv.2.1 wv.2.2 (.sl (some (M.n, 0)) 1 (.known 1)) K = K wv'.1 wv'.2.1 wv'.2.2 M') ∧
      W6 M0 M' role' hs cur gs ds hd s ot tabs scr cl to B P (wl ++ [xs]) wv' N ∧ Sta 6 M' role' (fun M => M.bytesAt w = some xs) := by
  obtain ⟨ws, w1, w2, w3⟩ := W.wt
  have hlen := W.len
  obtain ⟨M3, k3, t3, n3, b3, g3⟩ := Tail.push (bytes := 24) (y := w) (cs := [.sl w.1 w.2.1 w.2.2]) w1 encS1 (by omega) rfl (by omega) (fun o ho => (w2 o ho).1)
  have up0 := W.H.I.up
  have upn := up0.1
  have rl : ∀ y, y < M.n → extK 5 role M.n y = role y := fun y hy => extK_lt hy
  have hu : M0.Upto M3 := ⟨by omega, fun o ho => by rw [b3.2 o (by omega) (fun e => by have := (w2 o e).2.2; omega), up0.2 o ho]⟩
  have hg : ∀ y, y < M.n → role y ≠ .other 5 → M3.get y = M.get y := fun y hy hr => b3.2 y hy (fun e => hr (w2 y e).2.1)
  have st6 : ∀ Q : Mem → Prop, Sta 6 M role Q → Sta 6 M3 (extK 5 role M.n) Q := fun Q h => h.next (by omega) (fun o ho hro => hg o ho (by rw [hro]; intro e; cases e)) rl
  refine ⟨M3, extK 5 role M.n, (some (M.n + 1, 0), wv.2.1 + 1, .unk 0), k3, ⟨W.H.frame (by omega) hu hg rl, W.h1, W.me, W.oth, ⟨ws ++ [w], t3, fun o ho => ?_, ((st6 _ w3).and (st6 _ hw)).mono (fun M' h => h.1.app (Pks.one h.2))⟩, W.wf, W.cp⟩, st6 _ hw⟩
  simp only [fpOf, List.mem_singleton] at ho
  subst ho
  exact ⟨by omega, extK_ge (by omega), by omega⟩
end
end Go.Proofs.Ytidofnpfeibbfaa.M
set_option linter.unusedVariables false
set_option linter.unusedSimpArgs false
set_option linter.unnecessarySimpa false
set_option maxRecDepth 100000
namespace Go.Proofs.Ytidofnpfeibbfaa.M
open Go.Abs Go.RowKit
noncomputable def ofM (x y z : Int) : Mem := match C 25 [.int .u64 x, .int .u64 y, .int .u64 z] Mem.empty with
  | some r => r.2
  | none => Mem.empty
theorem of_C (x y z : Int) : C 25 [.int .u64 x, .int .u64 y, .int .u64 z] Mem.empty = some (.agg [.int .u64 x, .int .u64 y, .int .u64 z, .int .u64 0, .int .u64 0], ofM x y z) := by
  have hE := p25_0_eq C prog.meth x y z Mem.empty
  obtain ⟨M1, e1, g1, u1, n1⟩ := alloc_at Mem.empty ⟨[.int .u64 0, .int .u64 0, .int .u64 0, .int .u64 0, .int .u64 0], .fixed⟩
  obtain ⟨M2, s2, g2, n2, b2⟩ := st_at (i := 0) (vs := [.int .u64 x, .int .u64 y, .int .u64 z, .int .u64 0, .int .u64 0]) g1 (by simp)
  simp only [overL] at g2
  simp only [e1, s2, Option.bind_some, ldI_at g2, List.getElem?_cons_zero, List.getElem?_cons_succ, int?_int] at hE
  have hC := c25 hE
  unfold ofM
  rw [hC]
section
variable {M0 M M' : Mem} {role role' : Nat → Rj} {hs : List Nat} {cur cur' : List (Option Nat)} {gs gs' : List Gp} {ds ds' : List Dt} {h i g N : Nat} {d : Dt} {hd s : Nat} {tabs : List (List Pr)} {scr : List (List Deed)} {cl : List (Int × List Int)} {to : Int}
theorem there_nil (M : Mem) : C 44 [.ptr none] M = some (.int .i64 1, M) := by
  have hE := p44_0_eq C prog.meth none M
  simp only [int?_int, rvs, Int.reduceBEq, Int.reduceBNe, Int.cast_ofNat_Int] at hE
  exact c44 hE
theorem there_zero {o : Nat} (hg : M.get o = some ⟨[.bool false, .ptr none], .fixed⟩) : C 44 [.ptr (some (o, 0))] M = some (.int .i64 1, M) := by
  have hE := p44_0_eq C prog.meth (some (o, 0)) M
  simp only [int?_int, rvs, Int.reduceBEq, Int.reduceBNe, Int.cast_ofNat_Int, Nat.zero_add, ldB_at hg] at hE
  exact c44 hE
theorem alive_of {p : Option (Nat × Nat)} {e : Int} (he : e = 1 ∨ e = 40) (ht : C 44 [.ptr p] M = some (.int .i64 e, M)) : C 40 [.ptr p] M = some (.int .i64 e, M) := by
  have hE := p40_0_eq C prog.meth p M
  have hL := p64_0_eq C prog.meth p 0 1 M
  rw [ht, Option.bind_some] at hL
  rcases he with rfl | rfl
  · simp only [int?_int, rvs, Int.reduceBEq, Int.reduceBNe, Int.cast_ofNat_Int] at hL
    rw [c64 hL, Option.bind_some] at hE
    simp only [int?_int, rvs, Int.reduceBEq, Int.reduceBNe, Int.cast_ofNat_Int] at hE
    exact c40 hE
  · simp only [int?_int, rvs, Int.reduceBEq, Int.reduceBNe, Int.cast_ofNat_Int] at hL
    rw [c64 hL, Option.bind_some] at hE
    simp only [int?_int, rvs, Int.reduceBEq, Int.reduceBNe, Int.cast_ofNat_Int] at hE
    exact c40 hE
theorem new_of {p : Option (Nat × Nat)} {e : Int} (he : e = 1 ∨ e = 40) (ha : C 40 [.ptr p] M = some (.int .i64 e, M)) (a : Option (Nat × Nat)) (l : Nat) (c : Cap) (a' : Option (Nat × Nat)) (l' : Nat) (c' : Cap) : C 15 [.ptr p, .sl a l c, .sl a' l' c'] M = some (.tup [.ptr none, .int .i64 e], M) := by
  have hE := p15_0_eq C prog.meth p a l c a' l' c' M
  rw [ha, Option.bind_some] at hE
  rcases he with rfl | rfl
  · simp only [int?_int, rvs, Int.reduceBEq, Int.reduceBNe, Int.cast_ofNat_Int] at hE
    exact c15 hE
  · simp only [int?_int, rvs, Int.reduceBEq, Int.reduceBNe, Int.cast_ofNat_Int] at hE
    exact c15 hE
theorem hthere_nil (M : Mem) : C 46 [.ptr none] M = some (.bool false, M) := by
  have hE := p46_0_eq C prog.meth none M
  simp only [int?_int, rvs, Int.reduceBEq, Int.reduceBNe, Int.cast_ofNat_Int] at hE
  exact c46 hE
theorem hthere_zero {o : Nat} {cs : List AVal} (hg : M.get o = some ⟨.ptr none :: cs, .fixed⟩) : C 46 [.ptr (some (o, 0))] M = some (.bool false, M) := by
  have hE := p46_0_eq C prog.meth (some (o, 0)) M
  simp only [int?_int, rvs, Int.reduceBEq, Int.reduceBNe, Int.cast_ofNat_Int, Nat.zero_add, ldP_at hg] at hE
  exact c46 hE
theorem none_C {p : Option (Nat × Nat)} (ht : ∀ M', M.Upto M' → C 46 [.ptr p] M' = some (.bool false, M')) (id x y z : Int) : ∃ M', M.Upto M' ∧ C 17 [.ptr p, .int .i32 id, .agg [.int .u64 x, .int .u64 y, .int .u64 z, .int .u64 0, .int .u64 0]] M = some (.tup [.int .u64 0, .int .i64 1], M') ∧
    C 23 [.ptr p] M' = some (.sl none 0 (.known 0), M') ∧ C 26 [.ptr p] M' = some (.int .i64 (-1), M') := by
  have hE := p17_0_eq C prog.meth p id x y z 0 0 M
  obtain ⟨M1, e1, g1, u1, n1⟩ := alloc_at M ⟨[.int .u64 x, .int .u64 y, .int .u64 z, .int .u64 0, .int .u64 0], .fixed⟩
  have t1 := ht M1 u1
  simp only [e1, t1, int?_int, rvs, Int.reduceBEq, Int.reduceBNe, Int.cast_ofNat_Int] at hE
  have hC := p23_0_eq C prog.meth p M1
  rw [t1, Option.bind_some] at hC
  simp only [int?_int, rvs, Int.reduceBEq, Int.reduceBNe, Int.cast_ofNat_Int] at hC
  have hT := p26_0_eq C prog.meth p M1
  rw [t1, Option.bind_some] at hT
  simp only [int?_int, rvs, Int.reduceBEq, Int.reduceBNe, Int.cast_ofNat_Int] at hT
  exact ⟨M1, u1, c17 hE, c23 hC, c26 hT⟩
theorem To_C (H : Hd M0 M role hs cur gs ds hd s tabs scr cl to) : C 26 [.ptr (some (hd, 0))] M = some (.int .i64 to, M) := by
  have hE := p26_0_eq C prog.meth (some (hd, 0)) M
  obtain ⟨tv, fv, cv, vs, gh, _⟩ := H.obj
  have hth := p46_0_eq C prog.meth (some (hd, 0)) M
  simp only [int?_int, rvs, Int.reduceBEq, Int.reduceBNe, Int.cast_ofNat_Int, Nat.zero_add, ldP_at gh] at hth
  simp only [c46 hth, int?_int, rvs, Int.reduceBEq, Int.reduceBNe, Int.cast_ofNat_Int, Nat.zero_add, ldI_at gh] at hE
  exact c26 hE
structure Kn (M0 M : Mem) (role : Nat → Rj) (cur : List (Option Nat)) (gs : List Gp) (ds : List Dt) (hd s : Nat) (scr : List (List Deed)) (σ : HSt) (N : Nat) : Prop where
  H : Hd M0 M role [s] cur gs ds hd s k7 scr σ.cl σ.to
  me : ∃ g d, cur[0]? = some (some g) ∧ ds[g]? = some d ∧ d.B = σ.B ∧ d.mv ≤ N
  wf : wfB σ.B
theorem Kn.upto {σ : HSt} (K : Kn M0 M role cur gs ds hd s scr σ N) (hu : M.Upto M') : Kn M0 M' (extK 0 role M.n) cur gs ds hd s scr σ N := ⟨K.H.upto 0 hu, K.me, K.wf⟩
theorem Kn.call {σ : HSt} (K : Kn M0 M role cur gs ds hd s scr σ N) (hN : N < 2 ^ 62) {id : Int} (hid : -2147483648 ≤ id ∧ id < 2147483648) {x y z : Nat} (q4 q5 : Int) (hx : x < 2 ^ 64) (hy : y < 2 ^ 64) :
    ∃ M' role' cur' gs' ds', C 17 [.ptr (some (hd, 0)), .int .i32 id, .agg [.int .u64 (x : Int), .int .u64 (y : Int), .int .u64 (z : Int), .int .u64 q4, .int .u64 q5]] M = some (.tup [.int .u64 (callA k7 scr σ id x y z).1, .int .i64 (callA k7 scr σ id x y z).2.1], M') ∧
      Kn M0 M' role' cur' gs' ds' hd s scr (callA k7 scr σ id x y z).2.2 (N + 1) ∧ Fo role role' M M' := by
  obtain ⟨g, d, hc, hd', hB, hN'⟩ := K.me
  obtain ⟨B, cl, to⟩ := σ
  simp only at hB
  subst hB
  obtain ⟨M', k, role', cur', gs', ds', H', S, F⟩ := Call_C K.H hc hd' hN' hN K.wf hid (z := z) (q4 := q4) (q5 := q5) hx hy
  exact ⟨M', role', cur', gs', ds', k, ⟨H', S.me, callA_wf K.wf (fun L hL d hd => ((K.H.okS.2 L hL).2 d hd).1) _ _ _ _⟩, F⟩
theorem Kn.err {σ : HSt} (K : Kn M0 M role cur gs ds hd s scr σ N) (hN : N < 2 ^ 62) {id : Int} (hid : -2147483648 ≤ id ∧ id < 2147483648) {x y z : Nat} (hx : x < 2 ^ 64) (hy : y < 2 ^ 64) (hbad : hpR id = false ∨ (id = 8 ∧ 1 ≤ x)) :
    ∃ M' role' cur' gs' ds', C 17 [.ptr (some (hd, 0)), .int .i32 id, .agg [.int .u64 (x : Int), .int .u64 (y : Int), .int .u64 (z : Int), .int .u64 0, .int .u64 0]] M = some (.tup [.int .u64 0, .int .i64 180], M') ∧
      Kn M0 M' role' cur' gs' ds' hd s scr σ (N + 1) := by
  obtain ⟨M', role', cur', gs', ds', k, K', F⟩ := K.call hN hid (x := x) (y := y) (z := z) 0 0 hx hy
  have e : callA k7 scr σ id x y z = (0, 180, σ) := by unfold callA; exact if_pos hbad
  rw [e] at k K'
  exact ⟨M', role', cur', gs', ds', k, K'⟩
theorem inc1 (p : Pr) : chk [p] = 0 := chk_of (by simp) (fun i h => by simp at h)
theorem four_C (M : Mem) : ∃ M' role' gs' hd s, C 24 [] M = some (.tup [.ptr (some (s, 0)), .ptr (some (hd, 0)), .bool true], M') ∧ Kn M M' role' [some 0] gs' [⟨[1, 2, 3, 4], 64, 64, 0⟩] hd s [] ⟨[1, 2, 3, 4], [], -1⟩ 0 ∧ M.Upto M' := by
  have hE := p24_0_eq C prog.meth M
  obtain ⟨M1, e1, g1, u1, n1⟩ := alloc_at M ⟨[.int .u8 1, .int .u8 2, .int .u8 3, .int .u8 4], .fixed⟩
  have hx : M1.ints .u8 (some (M.n, 0)) 4 (.known 4) = some [1, 2, 3, 4] := ints_whole (xs := [1, 2, 3, 4]) (k := .u8) g1 (by simp) rfl
  have G0 : GS false KI M M1 (fun _ => .other 4) [] [] [] [] := ⟨u1, rfl, by simp, by simp, rfl, by simp, by simp⟩
  obtain ⟨M2, s, x, role2, n2, u2, H2, F2⟩ := I_new G0 (by simp) hx (by omega)
  have H2 : GS false KI M M2 role2 [s] [some 0] [x] [⟨[1, 2, 3, 4], 64, 64, 0⟩] := H2
  obtain ⟨M3, e3, g3, u3, n3⟩ := alloc_at M2 ⟨[.int .u64 7, .int .u64 2], .fixed⟩
  obtain ⟨M4, e4, g4, u4, n4⟩ := alloc_at M3 ⟨[.sl (some (M2.n, 0)) 1 (.known 1)], .fixed⟩
  have u34 := u3.trans u4
  have hT : Sl M3 2 encP (some (M2.n, 0)) 1 (.known 1) [(7, 2)] := Sl.whole (xs := [((7, 2) : Pr)]) encP2 g3 (by simp) rfl
  have ht : Sl M4 1 encS (some (M3.n, 0)) 1 (.known 1) [(some (M2.n, 0), 1, .known 1)] := Sl.whole (xs := [((some (M2.n, 0), 1, .known 1) : SlV)]) encS1 g4 (by simp) rfl
  have hTb : Tbs M4 [(some (M2.n, 0), 1, .known 1)] k7 := (Tbs.nil _).snoc (w := (some (M2.n, 0), 1, .known 1)) (hT.upto encP2 (by omega) u4)
  obtain ⟨M5, role5, u5, I5, F5, hnew⟩ := New_C (scr := []) (H2.extK 0 u34) rfl (g := 0) rfl rfl ht hTb (fun T hT => by simp only [k7, List.mem_singleton] at hT; subst hT; simp) (by omega) (fa := none) (fl := 0) (fc := .known 0) (dvs := []) (Sl.nil _ _ _ _ _) (by omega) rfl (fun i w L h => by simp at h) (fun L hL => by simp at hL)
  have hz : newE k7 ([] : List (List Deed)).length = 0 := by
    unfold newE k7 firstBad firstBad
    rw [inc1]; simp
  rcases hnew with ⟨hne, _⟩ | ⟨_, hd, k5, hdn, H5⟩
  · exact absurd hz hne
  simp only [int?_int, rvs, Int.reduceBEq, Int.reduceBNe, Int.cast_ofNat_Int, e1, n2, e3, e4] at hE
  rw [k5, Option.bind_some] at hE
  simp only [int?_int, rvs, Int.reduceBEq, Int.reduceBNe, Int.cast_ofNat_Int] at hE
  exact ⟨M5, role5, [x], hd, s, c24 hE, ⟨H5, ⟨0, _, rfl, rfl, rfl, Nat.le_refl _⟩, fun c hc => by simp only [List.mem_cons, List.not_mem_nil, or_false] at hc; omega⟩, u1.trans (u2.trans (u34.trans u5))⟩
def k2 : List (List Deed) := [[(2, 8, [1])], [(1, 0, []), (1, 8, [])]]
def kB : List Int := [1, 2, 3, 4, 0, 0, 0, 0, 1, 0, 0, 0]
def kC (i : Nat) : List (Int × List Int) := (List.range i).map (fun j : Nat => ((j : Int), kB))
theorem kk1 : callA k7 k2 ⟨[1, 2, 3, 4], [], -1⟩ 8 0 7 0 = (2, 0, ⟨[1, 2, 3, 4], [], -1⟩) := by kernel_rfl
theorem kk2 : callA k7 k2 ⟨[1, 2, 3, 4], [], -1⟩ 16 4 0 5 = (5, 0, ⟨[1, 2, 3, 4], [], -1⟩) := by kernel_rfl
theorem kk3 : callA k7 k2 ⟨[1, 2, 3, 4], [], -1⟩ 16 5 0 5 = (0, 0, ⟨[1, 2, 3, 4], [], -1⟩) := by kernel_rfl
theorem kk4 : callA k7 k2 ⟨[1, 2, 3, 4], [], -1⟩ 4 8 0 0 = (1, 0, ⟨[1, 2, 3, 4, 0, 0, 0, 0, 0, 0, 0, 0], [], -1⟩) := by kernel_rfl
theorem kk5 : callA k7 k2 ⟨[1, 2, 3, 4, 0, 0, 0, 0, 0, 0, 0, 0], [], -1⟩ 16 0 12 5 = (5, 0, ⟨kB, kC 0, -1⟩) := by kernel_rfl
theorem kk6 : callA k7 k2 ⟨kB, kC 0, -1⟩ 17 0 12 5 = (7, 0, ⟨kB, kC 0, -1⟩) := by kernel_rfl
theorem kk7 {i : Nat} (hi : i < 8) : callA k7 k2 ⟨kB, kC i, -1⟩ 6 i 0 0 = (1, 0, ⟨kB, kC (i + 1), -1⟩) := by
  unfold callA
  rw [if_neg (by rintro (h | h); exact absurd h (by decide); exact absurd h.1 (by decide))]
  have e : helpA k7 k2 ⟨kB, kC i, -1⟩ 6 i 0 0 = (if i < 8 ∧ (kC i).length < 8 then (1, ⟨kB, kC i ++ [((i : Int), kB)], -1⟩) else (0, ⟨kB, kC i, -1⟩)) := rfl
  rw [e, if_pos ⟨hi, by simp [kC]; exact hi⟩]
  have e2 : kC (i + 1) = kC i ++ [((i : Int), kB)] := by unfold kC; rw [List.range_succ, List.map_append]; rfl
  rw [e2]
theorem kk8 : callA k7 k2 ⟨kB, kC 8, -1⟩ 6 0 0 0 = (0, 0, ⟨kB, kC 8, -1⟩) := by kernel_rfl
theorem kept_loop {x0 : Nat} : ∀ (dd i : Nat) (M : Mem) (role : Nat → Rj) (cur : List (Option Nat)) (gs : List Gp) (ds : List Dt) (N : Nat), i + dd = 8 → N + dd < 1000 → Kn M0 M role cur gs ds hd s k2 ⟨kB, kC i, -1⟩ N →
    ∃ M' role' cur' gs' ds' N', p28_2 C prog.meth (some (hd, 0)) 2 5 0 5 7 (i : Int) M = p28_2 C prog.meth (some (hd, 0)) 2 5 0 5 7 8 M' ∧ N' < 1000 ∧ Kn M0 M' role' cur' gs' ds' hd s k2 ⟨kB, kC 8, -1⟩ N' := by
  intro dd
  induction dd with
  | zero =>
    intro i M role cur gs ds N hi hN K
    obtain rfl : i = 8 := by omega
    exact ⟨M, role, cur, gs, ds, N, rfl, by omega, K⟩
  | succ dd ih =>
    intro i M role cur gs ds N hi hN K
    have hE := p28_2_eq C prog.meth (some (hd, 0)) 2 5 0 5 7 (i : Int) M
    have q : ((i : Int) < 8) := by omega
    have wu : IntKind.wrap .u64 (i : Int) = (i : Int) := by rw [wu64]; omega
    have w1 : IntKind.wrap .i64 ((i : Int) + 1) = ((i + 1 : Nat) : Int) := by rw [wrap_i64 (by omega) (by omega)]; rfl
    obtain ⟨M1, r1, c1, g1, d1, k1, K1, _⟩ := K.call (id := 6) (x := i) (y := 0) (z := 0) (by omega) (by omega) 0 0 (by omega) (by omega)
    rw [kk7 (by omega)] at k1 K1
    have k1 : C 17 [.ptr (some (hd, 0)), .int .i32 6, .agg [.int .u64 (i : Int), .int .u64 0, .int .u64 0, .int .u64 0, .int .u64 0]] M = _ := k1
    simp only [int?_int, rvs, Int.reduceBEq, Int.reduceBNe, Int.cast_ofNat_Int, q, wu, of_C, k1, w1] at hE
    obtain ⟨M2, r2, c2, g2, d2, N2, k2, hN2, K2⟩ := ih (i + 1) M1 r1 c1 g1 d1 (N + 1) (by omega) (by omega) K1
    exact ⟨M2, r2, c2, g2, d2, N2, hE.trans k2, hN2, K2⟩
theorem kept24_C : ∃ M', C 28 [] Mem.empty = some (.bool true, M') := by
  obtain ⟨M, hM⟩ : ∃ M, M = Mem.empty := ⟨_, rfl⟩
  rw [← hM]
  have hE := p28_0_eq C prog.meth M
  obtain ⟨M1, e1, g1, u1, n1⟩ := alloc_at M ⟨[.int .u8 1, .int .u8 2, .int .u8 3, .int .u8 4], .fixed⟩
  have hx : M1.ints .u8 (some (M.n, 0)) 4 (.known 4) = some [1, 2, 3, 4] := ints_whole (xs := [1, 2, 3, 4]) (k := .u8) g1 (by simp) rfl
  have G0 : GS false KI M M1 (fun _ => .other 4) [] [] [] [] := ⟨u1, rfl, by simp, by simp, rfl, by simp, by simp⟩
  obtain ⟨M2, s, x, role2, n2, u2, H2, F2⟩ := I_new G0 (by simp) hx (by omega)
  have H2 : GS false KI M M2 role2 [s] [some 0] [x] [⟨[1, 2, 3, 4], 64, 64, 0⟩] := H2
  obtain ⟨M3, e3, g3, u3, n3⟩ := alloc_at M2 ⟨[.int .u64 7, .int .u64 2], .fixed⟩
  obtain ⟨M4, e4, g4, u4, n4⟩ := alloc_at M3 ⟨[.sl (some (M2.n, 0)) 1 (.known 1)], .fixed⟩
  have u34 := u3.trans u4
  have I4 := H2.extK 5 u34
  obtain ⟨M5, e5, g5, u5, n5⟩ := alloc_at M4 ⟨[.int .u8 1], .fixed⟩
  obtain ⟨M6, e6, g6, u6, n6⟩ := alloc_at M5 ⟨[.int .u8 2, .int .i64 8, .sl (some (M4.n, 0)) 1 (.known 1)], .fixed⟩
  obtain ⟨M7, e7, g7, u7, n7⟩ := alloc_at M6 ⟨[.int .u8 1, .int .i64 0, .sl none 0 (.known 0), .int .u8 1, .int .i64 8, .sl none 0 (.known 0)], .fixed⟩
  obtain ⟨M8, e8, g8, u8, n8⟩ := alloc_at M7 ⟨[.ifc (some 116) (.agg [.sl (some (M5.n, 0)) 1 (.known 1)]), .ifc (some 116) (.agg [.sl (some (M6.n, 0)) 2 (.known 2)])], .fixed⟩
  have u48 := u5.trans (u6.trans (u7.trans u8))
  have I8 := I4.extK 4 u48
  obtain ⟨R, hR⟩ : ∃ R, R = extK 4 (extK 5 role2 M2.n) M4.n := ⟨_, rfl⟩
  rw [← hR] at I8
  have r4 : ∀ y, M4.n ≤ y → R y = .other 4 := fun y hy => by rw [hR]; exact extK_ge hy
  have r5 : ∀ y, M2.n ≤ y → y < M4.n → R y = .other 5 := fun y h1 h2 => by rw [hR, extK_lt h2]; exact extK_ge h1
  have b5 : M8.get M4.n = some ⟨[.int .u8 1], .fixed⟩ := (u6.trans (u7.trans u8)).get g5
  have b6 : M8.get M5.n = some ⟨[.int .u8 2, .int .i64 8, .sl (some (M4.n, 0)) 1 (.known 1)], .fixed⟩ := (u7.trans u8).get g6
  have b7 : M8.get M6.n = some ⟨[.int .u8 1, .int .i64 0, .sl none 0 (.known 0), .int .u8 1, .int .i64 8, .sl none 0 (.known 0)], .fixed⟩ := u8.get g7
  have D1 : DS M8 R (some (M5.n, 0)) 1 (.known 1) [(2, 8, [1])] := ⟨rfl, fun i hi => by
    obtain rfl : i = 0 := by simp at hi; omega
    refine ⟨(M5.n, 0), (some (M4.n, 0), 1, .known 1), rfl, fun M' hn hg => ?_⟩
    have c5 : M'.get M4.n = some ⟨[1].map (.int .u8), .fixed⟩ := by rw [hg _ (by omega) (r4 _ (by omega))]; exact b5
    have c6 : M'.get M5.n = _ := (hg _ (by omega) (r4 _ (by omega))).trans b6
    exact ⟨by rw [ldI_at c6]; rfl, by rw [ldI_at c6]; rfl, by rw [ldL_at c6]; rfl, PS.lit (xs := [1]) c5 (by simp)⟩⟩
  have D2 : DS M8 R (some (M6.n, 0)) 2 (.known 2) [(1, 0, []), (1, 8, [])] := ⟨rfl, fun i hi => by
    refine ⟨(M6.n, 0), (none, 0, .known 0), rfl, fun M' hn hg => ?_⟩
    have c7 : M'.get M6.n = _ := (hg _ (by omega) (r4 _ (by omega))).trans b7
    have hi2 : i = 0 ∨ i = 1 := by simp at hi; omega
    rcases hi2 with rfl | rfl
    · exact ⟨by rw [ldI_at c7]; rfl, by rw [ldI_at c7]; rfl, by rw [ldL_at c7]; rfl, ⟨rfl, .inl ⟨rfl, .inl rfl⟩⟩⟩
    · exact ⟨by rw [ldI_at c7]; rfl, by rw [ldI_at c7]; rfl, by rw [ldL_at c7]; rfl, ⟨rfl, .inl ⟨rfl, .inl rfl⟩⟩⟩⟩
  have hT : Sl M3 2 encP (some (M2.n, 0)) 1 (.known 1) [(7, 2)] := Sl.whole (xs := [((7, 2) : Pr)]) encP2 g3 (by simp) rfl
  have ht : Sl M8 1 encS (some (M3.n, 0)) 1 (.known 1) [(some (M2.n, 0), 1, .known 1)] := (Sl.whole (xs := [((some (M2.n, 0), 1, .known 1) : SlV)]) encS1 g4 (by simp) rfl).upto encS1 (by omega) u48
  have hTb : Tbs M8 [(some (M2.n, 0), 1, .known 1)] k7 := (Tbs.nil _).snoc (w := (some (M2.n, 0), 1, .known 1)) (hT.upto encP2 (by omega) (u4.trans u48))
  have hf : Sl M8 1 encF (some (M7.n, 0)) 2 (.known 2) [(some (M5.n, 0), 1, .known 1), (some (M6.n, 0), 2, .known 2)] := Sl.whole (xs := [((some (M5.n, 0), 1, .known 1) : SlV), (some (M6.n, 0), 2, .known 2)]) encF1 g8 (by simp) rfl
  have okk : ∀ L ∈ k2, L.length ≤ 1048576 ∧ ∀ d ∈ L, DeedOk d ∧ d.2.2.length ≤ 1048576 := fun L hL => by
    simp only [k2, List.mem_cons, List.not_mem_nil, or_false] at hL
    rcases hL with rfl | rfl
    · refine ⟨by simp, fun d hd => ?_⟩
      simp only [List.mem_singleton] at hd
      subst hd
      exact ⟨⟨⟨by simp only; omega, by simp only; omega⟩, ⟨by simp only; omega, by simp only; omega⟩, by simp, fun c hc => by simp only [List.mem_singleton] at hc; omega⟩, by simp⟩
    · refine ⟨by simp, fun d hd => ?_⟩
      simp only [List.mem_cons, List.not_mem_nil, or_false] at hd
      rcases hd with rfl | rfl
      · exact ⟨⟨⟨by simp only; omega, by simp only; omega⟩, ⟨by simp only; omega, by simp only; omega⟩, by simp, fun c hc => by simp at hc⟩, by simp⟩
      · exact ⟨⟨⟨by simp only; omega, by simp only; omega⟩, ⟨by simp only; omega, by simp only; omega⟩, by simp, fun c hc => by simp at hc⟩, by simp⟩
  obtain ⟨M9, role9, u9, I9, F9, hnew⟩ := New_C (scr := k2) I8 rfl (g := 0) rfl rfl ht hTb (fun T hT => by simp only [k7, List.mem_singleton] at hT; subst hT; simp) (by omega) hf (by omega) rfl (fun i w L h1 h2 => by
    have hi : i = 0 ∨ i = 1 := by
      have := (List.getElem?_eq_some_iff.1 h1).1
      simp at this; omega
    rcases hi with rfl | rfl
    · simp only [k2, List.getElem?_cons_zero, Option.some.injEq] at h1 h2
      subst h1 h2; exact D1
    · simp only [k2, List.getElem?_cons_zero, List.getElem?_cons_succ, Option.some.injEq] at h1 h2
      subst h1 h2; exact D2) okk
  have hz : newE k7 k2.length = 0 := by
    unfold newE k7 firstBad firstBad
    rw [inc1]; simp [k2]
  rcases hnew with ⟨hne, _⟩ | ⟨_, hd, k9, hdn, H9⟩
  · exact absurd hz hne
  simp only [int?_int, rvs, Int.reduceBEq, Int.reduceBNe, Int.cast_ofNat_Int, e1, n2, e3, e4, e5, e6, e7, e8] at hE
  rw [k9, Option.bind_some] at hE
  simp only [int?_int, rvs, Int.reduceBEq, Int.reduceBNe, Int.cast_ofNat_Int] at hE
  have hF := p28_1_eq C prog.meth (some (M3.n, 0)) 1 (.known 1) (some (hd, 0)) M9
  have c3 : M9.get M2.n = some ⟨[.int .u64 7, .int .u64 2], .fixed⟩ := (u4.trans (u48.trans u9)).get g3
  have c4 : M9.get M3.n = some ⟨[.sl (some (M2.n, 0)) 1 (.known 1)], .fixed⟩ := (u48.trans u9).get g4
  obtain ⟨M10, s10, g10, n10, b10⟩ := st_at (i := 1) (vs := [.int .u64 9]) c3 (by simp)
  have u89 := u9.1
  have R5 : role9 M2.n = .other 5 := by rw [F9.rl M2.n (by omega)]; exact r5 _ (by omega) (by omega)
  have H10 : Hd M M10 role9 [s] [some 0] [x] [⟨[1, 2, 3, 4], 64, 64, 0⟩] hd s k7 k2 [] (-1) := H9.frame (by omega) ⟨by have := H9.I.up.1; omega, fun o ho => by
    have h1 := u1.1
    have h2 := u2.1
    rw [b10.2 o (by have := H9.I.up.1; omega) (by omega), H9.I.up.2 o ho]⟩ (fun y hy hne => b10.2 y hy (fun e => hne (by rw [e]; exact R5))) (fun _ _ => rfl)
  have K0 : Kn M M10 role9 [some 0] [x] [⟨[1, 2, 3, 4], 64, 64, 0⟩] hd s k2 ⟨[1, 2, 3, 4], [], -1⟩ 0 := ⟨H10, ⟨0, _, rfl, rfl, rfl, Nat.le_refl _⟩, fun c hc => by simp only [List.mem_cons, List.not_mem_nil, or_false] at hc; omega⟩
  obtain ⟨Ma, ra, ca, ga, da, ka, Ka, _⟩ := K0.call (id := 8) (x := 0) (y := 7) (z := 0) (by omega) (by omega) 0 0 (by omega) (by omega)
  rw [kk1] at ka Ka
  obtain ⟨Mb, rb, cb, gb, db, kb, Kb, _⟩ := Ka.call (id := 16) (x := 4) (y := 0) (z := 5) (by omega) (by omega) 0 0 (by omega) (by omega)
  rw [kk2] at kb Kb
  obtain ⟨Mc, rc, cc, gc, dc, kc, Kc, _⟩ := Kb.call (id := 16) (x := 5) (y := 0) (z := 5) (by omega) (by omega) 0 0 (by omega) (by omega)
  rw [kk3] at kc Kc
  obtain ⟨Md, rd, cd, gd, dd, kd, Kd, _⟩ := Kc.call (id := 4) (x := 8) (y := 0) (z := 0) (by omega) (by omega) 0 0 (by omega) (by omega)
  rw [kk4] at kd Kd
  obtain ⟨Me, re, ce, ge, de, ke, Ke, _⟩ := Kd.call (id := 16) (x := 0) (y := 12) (z := 5) (by omega) (by omega) 0 0 (by omega) (by omega)
  rw [kk5] at ke Ke
  obtain ⟨Mf, rf, cf, gf, df, kf, Kf, _⟩ := Ke.call (id := 17) (x := 0) (y := 12) (z := 5) (by omega) (by omega) 0 0 (by omega) (by omega)
  rw [kk6] at kf Kf
  have hb1 : Nat.blt 0 1 = true := rfl
  have l4 : M9.ldL M3.n (0 + 0 * 1) = some (some (M2.n, 0), 1, .known 1) := by rw [ldL_at c4]; rfl
  have s10 : M9.st M2.n (0 + 0 * 2 + 1) [.int .u64 9] = some M10 := s10
  have ka : C 17 [.ptr (some (hd, 0)), .int .i32 8, .agg [.int .u64 0, .int .u64 7, .int .u64 0, .int .u64 0, .int .u64 0]] M10 = _ := ka
  have kb : C 17 [.ptr (some (hd, 0)), .int .i32 16, .agg [.int .u64 4, .int .u64 0, .int .u64 5, .int .u64 0, .int .u64 0]] Ma = _ := kb
  have kc : C 17 [.ptr (some (hd, 0)), .int .i32 16, .agg [.int .u64 5, .int .u64 0, .int .u64 5, .int .u64 0, .int .u64 0]] Mb = _ := kc
  have kd : C 17 [.ptr (some (hd, 0)), .int .i32 4, .agg [.int .u64 8, .int .u64 0, .int .u64 0, .int .u64 0, .int .u64 0]] Mc = _ := kd
  have ke : C 17 [.ptr (some (hd, 0)), .int .i32 16, .agg [.int .u64 0, .int .u64 12, .int .u64 5, .int .u64 0, .int .u64 0]] Md = _ := ke
  have kf : C 17 [.ptr (some (hd, 0)), .int .i32 17, .agg [.int .u64 0, .int .u64 12, .int .u64 5, .int .u64 0, .int .u64 0]] Me = _ := kf
  simp only [int?_int, rvs, Int.reduceBEq, Int.reduceBNe, Int.cast_ofNat_Int, hb1, slPtr, l4, s10, of_C] at hF
  rw [ka, Option.bind_some] at hF
  simp only [int?_int, rvs, Int.reduceBEq, Int.reduceBNe, Int.cast_ofNat_Int] at hF
  rw [kb, Option.bind_some] at hF
  simp only [int?_int, rvs, Int.reduceBEq, Int.reduceBNe, Int.cast_ofNat_Int] at hF
  rw [kc, Option.bind_some] at hF
  simp only [int?_int, rvs, Int.reduceBEq, Int.reduceBNe, Int.cast_ofNat_Int] at hF
  rw [kd, Option.bind_some] at hF
  simp only [int?_int, rvs, Int.reduceBEq, Int.reduceBNe, Int.cast_ofNat_Int] at hF
  rw [ke, Option.bind_some] at hF
  simp only [int?_int, rvs, Int.reduceBEq, Int.reduceBNe, Int.cast_ofNat_Int] at hF
  rw [kf, Option.bind_some] at hF
  simp only [int?_int, rvs, Int.reduceBEq, Int.reduceBNe, Int.cast_ofNat_Int] at hF
  obtain ⟨Mg, rg, cg, gg, dg, Ng, kg, hNg, Kg⟩ := kept_loop (x0 := 0) 8 0 Mf rf cf gf df 6 (by omega) (by omega) Kf
  have kg : p28_2 C prog.meth (some (hd, 0)) 2 5 0 5 7 0 Mf = _ := kg
  have hG := p28_2_eq C prog.meth (some (hd, 0)) 2 5 0 5 7 8 Mg
  have q : ¬ ((8 : Int) < 8) := by omega
  obtain ⟨Mh, rh, ch, gh, dh, kh, Kh, _⟩ := Kg.call (id := 6) (x := 0) (y := 0) (z := 0) (by omega) (by omega) 0 0 (by omega) (by omega)
  rw [kk8] at kh Kh
  have kh : C 17 [.ptr (some (hd, 0)), .int .i32 6, .agg [.int .u64 0, .int .u64 0, .int .u64 0, .int .u64 0, .int .u64 0]] Mg = _ := kh
  obtain ⟨Mi, ov, vs, ki, ui, ho, hcp⟩ := Clones_C Kh.H (fun c hc => by
    simp only [kC, List.mem_map] at hc
    obtain ⟨j, _, rfl⟩ := hc
    show kB.length ≤ 2 ^ 47
    decide)
  have ol : ov.2.1 = 8 := by rw [← ho.2, hcp.length]; simp [kC]
  simp only [int?_int, rvs, Int.reduceBEq, Int.reduceBNe, Int.cast_ofNat_Int, q, of_C] at hG
  rw [kh, Option.bind_some] at hG
  simp only [int?_int, rvs, Int.reduceBEq, Int.reduceBNe, Int.cast_ofNat_Int, ki, ol] at hG
  exact ⟨Mi, c28 (hE.trans (hF.trans (kg.trans hG)))⟩
end
end Go.Proofs.Ytidofnpfeibbfaa.M
set_option linter.unusedVariables false
set_option linter.unusedSimpArgs false
set_option linter.unnecessarySimpa false
set_option maxRecDepth 100000
namespace Go.Proofs.Ytidofnpfeibbfaa.M
open Go.Abs Go.RowKit
def encA (t : KRow) : List AVal := [.int .u64 t.2.1, .int .u64 t.2.2.1, .int .u64 t.2.2.2.1, .int .u64 0, .int .u64 0]
theorem encA5 : Enc 5 encA := fun _ => rfl
def encK (t : KRow) : List AVal := [.int .i32 t.1]
theorem encK1 : Enc 1 encK := fun _ => rfl
def encW (t : KRow) : List AVal := [.int .u64 t.2.2.2.2]
theorem encW1 : Enc 1 encW := fun _ => rfl
section
variable {M0 M M' : Mem} {role role' : Nat → Rj} {hs : List Nat} {cur cur' : List (Option Nat)} {gs gs' : List Gp} {ds ds' : List Dt} {h i g N : Nat} {d : Dt} {hd s : Nat} {tabs : List (List Pr)} {scr : List (List Deed)} {cl : List (Int × List Int)} {to : Int} {σ : HSt}
theorem known_loop {o1 o2 o3 : Nat} : ∀ (dd i : Nat) (M : Mem) (role : Nat → Rj) (cur : List (Option Nat)) (gs : List Gp) (ds : List Dt) (N : Nat) (σ : HSt), i + dd = 23 → N + dd < 1000 → kS[i]? = some σ → Kn M0 M role cur gs ds hd s [] σ N →
    M.get o1 = some ⟨kT.flatMap encK, .fixed⟩ → M.get o2 = some ⟨kT.flatMap encA, .fixed⟩ → M.get o3 = some ⟨kT.flatMap encW, .fixed⟩ → role o1 = .other 0 → role o2 = .other 0 → role o3 = .other 0 →
    ∃ M' role' cur' gs' ds' N', p6_1 C prog.meth (some (s, 0)) (some (hd, 0)) (some (o1, 0)) 23 (.known 23) (some (o2, 0)) 23 (.known 23) (some (o3, 0)) 23 (.known 23) (i : Int) M = p6_1 C prog.meth (some (s, 0)) (some (hd, 0)) (some (o1, 0)) 23 (.known 23) (some (o2, 0)) 23 (.known 23) (some (o3, 0)) 23 (.known 23) 23 M' ∧ N' < 1000 ∧ Kn M0 M' role' cur' gs' ds' hd s [] ⟨[2, 2, 4, 1], [(3, [2, 2, 4, 1])], 5⟩ N' := by
  intro dd
  induction dd with
  | zero =>
    intro i M role cur gs ds N σ hi hN hσ K _ _ _ _ _ _
    obtain rfl : i = 23 := by omega
    have : σ = ⟨[2, 2, 4, 1], [(3, [2, 2, 4, 1])], 5⟩ := by
      have h : kS[23]? = some ⟨[2, 2, 4, 1], [(3, [2, 2, 4, 1])], 5⟩ := rfl
      rw [h] at hσ; exact (Option.some.inj hσ).symm
    subst this
    exact ⟨M, role, cur, gs, ds, N, rfl, by omega, K⟩
  | succ dd ih =>
    intro i M role cur gs ds N σ hi hN hσ K g1 g2 g3 r1 r2 r3
    have hE := p6_1_eq C prog.meth (some (s, 0)) (some (hd, 0)) (some (o1, 0)) 23 (.known 23) (some (o2, 0)) 23 (.known 23) (some (o3, 0)) 23 (.known 23) (i : Int) M
    have q : ((i : Int) < 23) := by omega
    have k0 : (0 : Int) ≤ (i : Int) := by omega
    have k1 : Nat.blt i 23 = true := Mem.blt_iff.2 (by omega)
    have w1 : IntKind.wrap .i64 ((i : Int) + 1) = ((i + 1 : Nat) : Int) := by rw [wrap_i64 (by omega) (by omega)]; rfl
    obtain ⟨t, σ0, σ', e1, e2, e3, hk, hid, hx, hy⟩ := kall i (by omega)
    rw [hσ] at e2
    obtain rfl := Option.some.inj e2
    have hil : i < kT.length := (List.getElem?_eq_some_iff.1 e1).1
    have hti : kT[i] = t := (List.getElem?_eq_some_iff.1 e1).2
    have v0 : M.ldI .i32 o1 (0 + i * 1) = some t.1 := by
      rw [ldI_at g1, Nat.zero_add]
      have := flatMap_get encK1 kT i 0 hil (by omega)
      rw [Nat.add_zero] at this
      rw [this, hti]; rfl
    have va : ∀ f v, f < 5 → (encA t)[f]? = some (.int .u64 v) → M.ldI .u64 o2 (i * 5 + f) = some v := fun f v hf hv => by
      rw [ldI_at g2, flatMap_get encA5 kT i f hil hf, hti, hv]
      simp
    have a0 : M.ldI .u64 o2 (0 + i * 5) = some ((t.2.1 : Nat) : Int) := by rw [Nat.zero_add]; exact va 0 _ (by omega) rfl
    have a1 : M.ldI .u64 o2 (0 + i * 5 + 1) = some ((t.2.2.1 : Nat) : Int) := by rw [Nat.zero_add]; exact va 1 _ (by omega) rfl
    have a2 : M.ldI .u64 o2 (0 + i * 5 + 1 + 1) = some ((t.2.2.2.1 : Nat) : Int) := by rw [Nat.zero_add]; exact va 2 _ (by omega) rfl
    have a3 : M.ldI .u64 o2 (0 + i * 5 + 1 + 1 + 1) = some 0 := by rw [Nat.zero_add]; exact va 3 _ (by omega) rfl
    have a4 : M.ldI .u64 o2 (0 + i * 5 + 1 + 1 + 1 + 1) = some 0 := by rw [Nat.zero_add]; exact va 4 _ (by omega) rfl
    obtain ⟨M1, role1, cur1, gs1, ds1, c1, K1, F1⟩ := K.call (by omega) hid (z := t.2.2.2.1) 0 0 hx hy
    have hk : callA k7 [] σ t.1 t.2.1 t.2.2.1 t.2.2.2.1 = (t.2.2.2.2, 0, σ') := hk
    rw [hk] at c1 K1
    have keep : ∀ o, M.get o ≠ none → role o = .other 0 → M1.get o = M.get o ∧ role1 o = .other 0 := fun o ho hr => by
      have hl : o < M.n := by
        cases hg : M.get o with
        | none => exact absurd hg ho
        | some x => exact Mem.get_lt hg
      exact ⟨F1.get o hl ⟨0, hr, by decide, by decide⟩, (F1.rl o hl).trans hr⟩
    obtain ⟨b1, q1⟩ := keep o1 (by rw [g1]; simp) r1
    obtain ⟨b2, q2⟩ := keep o2 (by rw [g2]; simp) r2
    obtain ⟨b3, q3⟩ := keep o3 (by rw [g3]; simp) r3
    have v3 : M1.ldI .u64 o3 (0 + i * 1) = some t.2.2.2.2 := by
      rw [ldI_at (b3.trans g3), Nat.zero_add]
      have := flatMap_get encW1 kT i 0 hil (by omega)
      rw [Nat.add_zero] at this
      rw [this, hti]; rfl
    simp only [int?_int, rvs, Int.reduceBEq, Int.reduceBNe, Int.cast_ofNat_Int, slPtr, q, k0, k1, Int.toNat_natCast, v0, a0, a1, a2, a3, a4] at hE
    rw [c1, Option.bind_some] at hE
    simp only [int?_int, rvs, Int.reduceBEq, Int.reduceBNe, Int.cast_ofNat_Int, v3, w1] at hE
    obtain ⟨M2, role2, cur2, gs2, ds2, N2, p2, hN2, K2⟩ := ih (i + 1) M1 role1 cur1 gs1 ds1 (N + 1) σ' (by omega) (by omega) e3 K1 (b1.trans g1) (b2.trans g2) (b3.trans g3) q1 q2 q3
    exact ⟨M2, role2, cur2, gs2, ds2, N2, hE.trans p2, hN2, K2⟩
theorem bytes_Kn (K : Kn M0 M role cur gs ds hd s scr σ N) : ∃ (M' : Mem) (v : SlV), C 16 [.ptr (some (s, 0))] M = some (.sl v.1 v.2.1 v.2.2, M') ∧ M.Upto M' ∧ Own1 M' v σ.B := by
  obtain ⟨g, d, hc, hd', hB, _⟩ := K.me
  obtain ⟨M', v, k1, u1, ov, _⟩ := I_bytes K.H.I K.H.s0 hc
  rw [bytesO_at hd', hB] at ov
  exact ⟨M', v, k1, u1, ov⟩
theorem lit4 (M : Mem) : ∃ M', M.alloc ⟨[.int .u8 2, .int .u8 2, .int .u8 4, .int .u8 1], .fixed⟩ = M' ∧ M.Upto M' ∧ M'.ints .u8 (some (M.n, 0)) 4 (.known 4) = some [2, 2, 4, 1] := by
  obtain ⟨M1, e1, g1, u1, n1⟩ := alloc_at M ⟨[.int .u8 2, .int .u8 2, .int .u8 4, .int .u8 1], .fixed⟩
  exact ⟨M1, e1, u1, ints_whole (xs := [2, 2, 4, 1]) (k := .u8) g1 (by simp) rfl⟩
theorem known_shown {a1 a2 a3 : Option (Nat × Nat)} {l2 l3 : Nat} {c1 c2 c3 : Cap} (K : Kn M0 M role cur gs ds hd s [] ⟨[2, 2, 4, 1], [(3, [2, 2, 4, 1])], 5⟩ N) :
    ∃ M' role', p6_1 C prog.meth (some (s, 0)) (some (hd, 0)) a1 23 c1 a2 l2 c2 a3 l3 c3 23 M = p6_2 C prog.meth (some (s, 0)) (some (hd, 0)) true M' ∧ Kn M0 M' role' cur gs ds hd s [] ⟨[2, 2, 4, 1], [(3, [2, 2, 4, 1])], 5⟩ N := by
  have hE := p6_1_eq C prog.meth (some (s, 0)) (some (hd, 0)) a1 23 c1 a2 l2 c2 a3 l3 c3 23 M
  have q : ¬ ((23 : Int) < 23) := by omega
  obtain ⟨M1, ov, vs, k1, u1, ho, hcp⟩ := Clones_C K.H (fun c hc => by
    simp only [List.mem_singleton] at hc
    subst hc; simp)
  have K1 := K.upto u1
  obtain ⟨M2, v, k2, u2, o2⟩ := bytes_Kn K1
  obtain ⟨M3, e3, u3, i3⟩ := lit4 M2
  have h3 := EqBytes_C (o2.upto u3).ints i3 (by have := o2.1; simp at this; omega)
  rw [decide_eq_true rfl] at h3
  obtain ⟨hv, e4, e5⟩ := hcp.at (i := 0) (by simp)
  simp only [List.getElem_cons_zero] at e4 e5
  have ol : ov.2.1 = 1 := by rw [← ho.2, hcp.length]; rfl
  have ho3 := ho.upto encC2 (by omega) (u2.trans u3)
  obtain ⟨p, hp, hpv⟩ := ho3.get encC2 (by omega) (i := 0) (by omega)
  have v0 : M3.ldI .i64 p.1 (p.2 + 0 * 2 + 0) = some 3 := ldI_ld.2 (by have := hpv 0 (by omega); rw [← Nat.add_assoc] at this; rw [this]; show some (AVal.int .i64 vs[0].1) = _; rw [e4])
  have v1 : M3.ldL p.1 (p.2 + 0 * 2 + 1) = some (vs[0].2) := by
    have := hpv 1 (by omega)
    rw [← Nat.add_assoc] at this
    unfold Mem.ldL
    rw [this]; rfl
  obtain ⟨M4, e6, u4, i4⟩ := lit4 M3
  have hel := ints_length (show M1.ints .u8 vs[0].2.1 vs[0].2.2.1 vs[0].2.2.2 = some [2, 2, 4, 1] from e5)
  have h4 := EqBytes_C (ints_upto (show M1.ints .u8 vs[0].2.1 vs[0].2.2.1 vs[0].2.2.2 = some [2, 2, 4, 1] from e5) (u2.trans (u3.trans u4))) i4 (by simp at hel; omega)
  rw [decide_eq_true rfl] at h4
  have K4 := K1.upto (u2.trans (u3.trans u4))
  have kt := To_C K4.H
  have hb : Nat.blt 0 1 = true := rfl
  have q1 : (((1 : Nat) : Int) == 1) = true := rfl
  simp only [int?_int, rvs, Int.reduceBEq, Int.reduceBNe, Int.cast_ofNat_Int, q, k1, k2, e3, h3, ol, q1, hb, hp, v0, v1, e6, h4, kt] at hE
  exact ⟨M4, _, hE, K4⟩
theorem enc0 : Enc 1 (fun _ : Unit => [AVal.ifc none (.tup [])]) := fun _ => rfl
theorem nils9 (M : Mem) : ∃ M', M.alloc ⟨replZ [.ifc none (.tup [])] 9, .fixed⟩ = M' ∧ M.Upto M' ∧ M'.n = M.n + 1 ∧ Sl M' 1 (fun _ : Unit => [AVal.ifc none (.tup [])]) (some (M.n, 0)) 9 (.known 9) (List.replicate 9 ()) := by
  obtain ⟨M1, e1, g1, u1, n1⟩ := alloc_at M ⟨replZ [.ifc none (.tup [])] 9, .fixed⟩
  have := Sl.whole (M := M1) (xs := List.replicate 9 ()) (kd := .fixed) (c := .known 9) enc0 (by rw [g1]; rfl) (by simp) rfl
  rw [List.length_replicate] at this
  exact ⟨M1, e1, u1, n1, this⟩
theorem dup_chk : chk [(1, 0), (1, 0)] = 190 := by
  unfold chk
  rw [if_neg (by simp), if_neg (fun h => by have := h 0 (by simp); simp at this)]
theorem known_errs (K : Kn M0 M role cur gs ds hd s [] ⟨[2, 2, 4, 1], [(3, [2, 2, 4, 1])], 5⟩ N) (hN : N < 2000) :
    ∃ M' role' cur' gs' ds' N', p6_2 C prog.meth (some (s, 0)) (some (hd, 0)) true M = p6_3 C prog.meth (some (s, 0)) (some (hd, 0)) true true M' ∧ Kn M0 M' role' cur' gs' ds' hd s [] ⟨[2, 2, 4, 1], [(3, [2, 2, 4, 1])], 5⟩ N' := by
  have hE := p6_2_eq C prog.meth (some (s, 0)) (some (hd, 0)) true M
  obtain ⟨M1, r1, c1, g1, d1, k1, K1⟩ := K.err (id := 8) (x := 1) (y := 7) (z := 0) (by omega) (by omega) (by omega) (by omega) (.inr ⟨rfl, Nat.le_refl _⟩)
  obtain ⟨M2, r2, c2, g2, d2, k2, K2⟩ := K1.err (id := 9) (x := 0) (y := 0) (z := 0) (by omega) (by omega) (by omega) (by omega) (.inl rfl)
  obtain ⟨M3, r3, c3, g3, d3, k3, K3⟩ := K2.err (id := 24) (x := 0) (y := 0) (z := 0) (by omega) (by omega) (by omega) (by omega) (.inl rfl)
  obtain ⟨M4, r4, c4, g4, d4, k4, K4⟩ := K3.err (id := 0) (x := 0) (y := 0) (z := 0) (by omega) (by omega) (by omega) (by omega) (.inl rfl)
  have k1 : C 17 [.ptr (some (hd, 0)), .int .i32 8, .agg [.int .u64 1, .int .u64 7, .int .u64 0, .int .u64 0, .int .u64 0]] M = _ := k1
  have k2 : C 17 [.ptr (some (hd, 0)), .int .i32 9, .agg [.int .u64 0, .int .u64 0, .int .u64 0, .int .u64 0, .int .u64 0]] M1 = _ := k2
  have k3 : C 17 [.ptr (some (hd, 0)), .int .i32 24, .agg [.int .u64 0, .int .u64 0, .int .u64 0, .int .u64 0, .int .u64 0]] M2 = _ := k3
  have k4 : C 17 [.ptr (some (hd, 0)), .int .i32 0, .agg [.int .u64 0, .int .u64 0, .int .u64 0, .int .u64 0, .int .u64 0]] M3 = _ := k4
  have k5 := new_of (.inl rfl) (alive_of (.inl rfl) (there_nil M4)) none 0 (.known 0) none 0 (.known 0)
  obtain ⟨M6, e6, b6, u6, n6⟩ := alloc_at M4 ⟨[.bool false, .ptr none], .fixed⟩
  obtain ⟨M7, e7, b7, u7, n7⟩ := alloc_at M6 ⟨replZ [.sl none 0 (.known 0)] 9, .fixed⟩
  have k7' := new_of (.inl rfl) (alive_of (.inl rfl) (there_zero (u7.get b6))) (some (M6.n, 0)) 9 (.known 9) none 0 (.known 0)
  obtain ⟨M8, e8, b8, u8, n8⟩ := alloc_at M7 ⟨replZ [.sl none 0 (.known 0)] 5, .fixed⟩
  have K8 := K4.upto (u6.trans (u7.trans u8))
  obtain ⟨g, d, hc, hd', hB, _⟩ := K8.me
  have t8 : Sl M8 1 encS (some (M7.n, 0)) 5 (.known 5) (List.replicate 5 (none, 0, .known 0)) := by
    have := Sl.whole (M := M8) (xs := List.replicate 5 ((none, 0, .known 0) : SlV)) (kd := .fixed) (c := .known 5) encS1 (by rw [b8]; rfl) (by simp) rfl
    rwa [List.length_replicate] at this
  have tn : ∀ (M : Mem) (n : Nat), Tbs M (List.replicate n (none, 0, .known 0)) (List.replicate n []) := fun M n => by
    induction n with
    | zero => exact Tbs.nil M
    | succ n ih => rw [List.replicate_succ', List.replicate_succ']; exact ih.snoc (Sl.nil _ _ _ _ _)
  have z8 : newE (List.replicate 5 ([] : List Pr)) 0 = 3 := by unfold newE; rw [if_pos (by simp)]
  obtain ⟨M9, u9, k9⟩ := New_bad_C K8.H.I K8.H.s0 hc hd' t8 (tn _ _) (fun T hT => by rw [List.eq_of_mem_replicate hT]; simp) (by omega) encF1 (fa := none) (fl := 0) (fc := .known 0) (dvs := []) (Sl.nil _ _ _ _ _) (by omega) (by rw [z8]; decide)
  rw [z8] at k9
  obtain ⟨Ma, ea, ba, ua, na⟩ := alloc_at M9 ⟨[.int .u64 1, .int .u64 0, .int .u64 1, .int .u64 0], .fixed⟩
  obtain ⟨Mb, eb, bb, ub, nb⟩ := alloc_at Ma ⟨[.sl (some (M9.n, 0)) 2 (.known 2)], .fixed⟩
  obtain ⟨Mc, ec, uc, nc, fc9⟩ := nils9 Mb
  have Kc := K8.upto (u9.trans (ua.trans (ub.trans uc)))
  have Tc : Sl Mc 2 encP (some (M9.n, 0)) 2 (.known 2) [(1, 0), (1, 0)] := (Sl.whole (xs := [((1, 0) : Pr), (1, 0)]) encP2 ba (by simp) rfl).upto encP2 (by omega) (ub.trans uc)
  have tc : Sl Mc 1 encS (some (Ma.n, 0)) 1 (.known 1) [(some (M9.n, 0), 2, .known 2)] := (Sl.whole (xs := [((some (M9.n, 0), 2, .known 2) : SlV)]) encS1 bb (by simp) rfl).upto encS1 (by omega) uc
  have zc : newE [[(1, 0), (1, 0)]] 9 = 190 := by
    unfold newE firstBad
    rw [dup_chk]; simp
  obtain ⟨gc, dc, hcc, hdc, _, _⟩ := Kc.me
  obtain ⟨Md, ud, kd⟩ := New_bad_C Kc.H.I Kc.H.s0 hcc hdc (tabs := [[(1, 0), (1, 0)]]) tc ((Tbs.nil _).snoc (w := (some (M9.n, 0), 2, .known 2)) Tc) (fun T hT => by simp only [List.mem_singleton] at hT; subst hT; simp) (by omega) enc0 fc9 (by omega) (by rw [zc]; decide)
  rw [zc] at kd
  obtain ⟨Me, ee, ue, ne, fe9⟩ := nils9 Md
  have Ke := Kc.upto (ud.trans ue)
  have ze : newE [] 9 = 3 := by
    unfold newE firstBad
    simp
  obtain ⟨ge, de, hce, hde, _, _⟩ := Ke.me
  obtain ⟨Mf, uf, kf⟩ := New_bad_C Ke.H.I Ke.H.s0 hce hde (tabs := []) (ta := none) (l := 0) (tc := .known 0) (tvs := []) (Sl.nil _ _ _ _ _) (Tbs.nil _) (fun T hT => by simp at hT) (by omega) enc0 fe9 (by omega) (by rw [ze]; decide)
  rw [ze] at kf
  simp only [int?_int, rvs, Int.reduceBEq, Int.reduceBNe, Int.cast_ofNat_Int, of_C] at hE
  rw [k1, Option.bind_some] at hE
  simp only [int?_int, rvs, Int.reduceBEq, Int.reduceBNe, Int.cast_ofNat_Int] at hE
  rw [k2, Option.bind_some] at hE
  simp only [int?_int, rvs, Int.reduceBEq, Int.reduceBNe, Int.cast_ofNat_Int] at hE
  rw [k3, Option.bind_some] at hE
  simp only [int?_int, rvs, Int.reduceBEq, Int.reduceBNe, Int.cast_ofNat_Int] at hE
  rw [k4, Option.bind_some] at hE
  simp only [int?_int, rvs, Int.reduceBEq, Int.reduceBNe, Int.cast_ofNat_Int] at hE
  rw [k5, Option.bind_some] at hE
  simp only [int?_int, rvs, Int.reduceBEq, Int.reduceBNe, Int.cast_ofNat_Int, e6, e7] at hE
  rw [k7', Option.bind_some] at hE
  simp only [int?_int, rvs, Int.reduceBEq, Int.reduceBNe, Int.cast_ofNat_Int, e8] at hE
  rw [k9, Option.bind_some] at hE
  simp only [int?_int, rvs, Int.reduceBEq, Int.reduceBNe, Int.cast_ofNat_Int, ea, eb, ec] at hE
  rw [kd, Option.bind_some] at hE
  simp only [int?_int, rvs, Int.reduceBEq, Int.reduceBNe, Int.cast_ofNat_Int, ee] at hE
  rw [kf, Option.bind_some] at hE
  simp only [int?_int, rvs, Int.reduceBEq, Int.reduceBNe, Int.cast_ofNat_Int] at hE
  exact ⟨Mf, _, c4, g4, d4, _, hE, Ke.upto uf⟩
theorem known_gone (K : Kn M0 M role cur gs ds hd s [] ⟨[2, 2, 4, 1], [(3, [2, 2, 4, 1])], 5⟩ N) :
    ∃ M', p6_3 C prog.meth (some (s, 0)) (some (hd, 0)) true true M = p6_4 C prog.meth true true 0 40 40 none true 0 M' := by
  have hE := p6_3_eq C prog.meth (some (s, 0)) (some (hd, 0)) true true M
  obtain ⟨g, d, hc, hd', hB, _⟩ := K.me
  obtain ⟨M1, k1, I1, F1⟩ := I_free K.H.I K.H.s0 hc
  have hc1 : (cur.set 0 none)[0]? = some none := by
    have := (List.getElem?_eq_some_iff.1 hc).1
    rw [List.getElem?_set, if_pos rfl, if_pos this]
  have H1 := K.H.fj I1 F1
  obtain ⟨tv, fv, cv, vs, gh, _⟩ := H1.obj
  have hC := p17_0_eq C prog.meth (some (hd, 0)) 1 0 1 0 0 0 M1
  obtain ⟨M2, e2, g2, u2, n2⟩ := alloc_at M1 ⟨[.int .u64 0, .int .u64 1, .int .u64 0, .int .u64 0, .int .u64 0], .fixed⟩
  have gh2 := u2.get gh
  have hth := p46_0_eq C prog.meth (some (hd, 0)) M2
  simp only [int?_int, rvs, Int.reduceBEq, Int.reduceBNe, Int.cast_ofNat_Int, Nat.zero_add, ldP_at gh2] at hth
  have I2 := I1.extK 0 u2
  have al := alive_of (.inr rfl) (I_gone I2 H1.s0 hc1)
  simp only [e2, c46 hth, int?_int, rvs, Int.reduceBEq, Int.reduceBNe, Int.cast_ofNat_Int, Nat.zero_add, ldP_at gh2] at hC
  rw [al, Option.bind_some] at hC
  simp only [int?_int, rvs, Int.reduceBEq, Int.reduceBNe, Int.cast_ofNat_Int] at hC
  have kn := new_of (.inr rfl) al none 0 (.known 0) none 0 (.known 0)
  have kC := c17 hC
  rw [k1, Option.bind_some] at hE
  simp only [int?_int, rvs, Int.reduceBEq, Int.reduceBNe, Int.cast_ofNat_Int, of_C] at hE
  rw [kC, Option.bind_some] at hE
  simp only [int?_int, rvs, Int.reduceBEq, Int.reduceBNe, Int.cast_ofNat_Int] at hE
  rw [kn, Option.bind_some] at hE
  simp only [int?_int, rvs, Int.reduceBEq, Int.reduceBNe, Int.cast_ofNat_Int] at hE
  exact ⟨M2, hE⟩
theorem known_none (M : Mem) : ∃ M', p6_4 C prog.meth true true 0 40 40 none true 0 M = some (.bool true, M') := by
  have h0 := p6_4_eq C prog.meth true true 0 40 40 none true 0 M
  obtain ⟨M1, u1, k1, k2, k3⟩ := none_C (M := M) (p := none) (fun M' _ => hthere_nil M') 99 0 0 0
  obtain ⟨M2, e2, g2, u2, n2⟩ := alloc_at M1 ⟨[.ptr none, .sl none 0 (.known 0), .sl none 0 (.known 0), .sl none 0 (.known 0), .int .i64 0], .fixed⟩
  have q0 : ((0 : Int) < 2) := by omega
  have w0 : IntKind.wrap .i64 ((0 : Int) + 1) = 1 := rfl
  have z0 : (((0 : Nat) : Int) == 0) = true := rfl
  have z1 : ((-1 : Int) == -1) = true := rfl
  simp only [int?_int, rvs, Int.reduceBEq, Int.reduceBNe, Int.cast_ofNat_Int, q0, of_C] at h0
  rw [k1, Option.bind_some] at h0
  simp only [int?_int, rvs, Int.reduceBEq, Int.reduceBNe, Int.cast_ofNat_Int, k2, z0, k3, z1, e2, w0] at h0
  have h1 := p6_4_eq C prog.meth true true 0 40 40 (some (M1.n, 0)) true 1 M2
  obtain ⟨M3, u3, k4, k5, k6⟩ := none_C (M := M2) (p := some (M1.n, 0)) (fun M' hu => hthere_zero (hu.get g2)) 99 0 0 0
  obtain ⟨M4, e4, g4, u4, n4⟩ := alloc_at M3 ⟨[.ptr none, .sl none 0 (.known 0), .sl none 0 (.known 0), .sl none 0 (.known 0), .int .i64 0], .fixed⟩
  have q1 : ((1 : Int) < 2) := by omega
  have w1 : IntKind.wrap .i64 ((1 : Int) + 1) = 2 := rfl
  simp only [int?_int, rvs, Int.reduceBEq, Int.reduceBNe, Int.cast_ofNat_Int, q1, of_C] at h1
  rw [k4, Option.bind_some] at h1
  simp only [int?_int, rvs, Int.reduceBEq, Int.reduceBNe, Int.cast_ofNat_Int, k5, z0, k6, z1, e4, w1] at h1
  have h2 := p6_4_eq C prog.meth true true 0 40 40 (some (M3.n, 0)) true 2 M4
  have q2 : ¬ ((2 : Int) < 2) := by omega
  obtain ⟨_, a1⟩ := HArgs_C (i := 23) (by omega)
  obtain ⟨_, a2⟩ := HArgs_C (i := 24) (by omega)
  rw [show tellA 23 = [.int .i64 3, .bool true] from by kernel_rfl] at a1
  rw [show tellA 24 = [.int .i64 0, .bool false] from by kernel_rfl] at a2
  obtain ⟨_, cw⟩ := works24_C
  obtain ⟨_, ck⟩ := kept24_C
  have m3 := p10_0_eq C prog.meth 3 Mem.empty
  have m4 := p10_0_eq C prog.meth 4 Mem.empty
  have m5 := p10_0_eq C prog.meth 5 Mem.empty
  simp only [int?_int, rvs, Int.reduceBEq, Int.reduceBNe, Int.cast_ofNat_Int] at m3 m4 m5
  simp only [int?_int, rvs, Int.reduceBEq, Int.reduceBNe, Int.cast_ofNat_Int, q2] at h2
  rw [a1, Option.bind_some] at h2
  simp only [int?_int, rvs, Int.reduceBEq, Int.reduceBNe, Int.cast_ofNat_Int] at h2
  rw [a2, Option.bind_some] at h2
  simp only [int?_int, rvs, Int.reduceBEq, Int.reduceBNe, Int.cast_ofNat_Int, cw, ck, c10 m3, c10 m4, c10 m5] at h2
  exact ⟨M4, h0.trans (h1.trans h2)⟩
theorem bind_lazy {α β : Type} {a b : Option α} {f : α → Option β} (h : a = b) : a.bind f = b.bind f := by rw [h]
theorem cond_lazy {α : Type} {c c' : Bool} {a b : α} (h : c = c') : cond c a b = cond c' a b := by rw [h]
attribute [local congr] bind_lazy cond_lazy in
theorem HelperKnown_C (M : Mem) : ∃ M', C 6 [] M = some (.bool true, M') := by
  have hE := p6_0_eq C prog.meth M
  obtain ⟨M1, role1, gs1, hd, s, k1, K1, _⟩ := four_C M
  obtain ⟨M2, e2, g2, u2, n2⟩ := alloc_at M1 ⟨[.int .i32 1, .int .i32 1, .int .i32 2, .int .i32 2, .int .i32 3, .int .i32 3, .int .i32 4, .int .i32 4, .int .i32 5, .int .i32 8, .int .i32 8, .int .i32 16, .int .i32 6, .int .i32 6, .int .i32 7, .int .i32 7, .int .i32 1, .int .i32 1, .int .i32 1, .int .i32 2, .int .i32 5, .int .i32 5, .int .i32 5], .fixed⟩
  obtain ⟨M3, e3, g3, u3, n3⟩ := alloc_at M2 ⟨[.int .u64 1, .int .u64 2, .int .u64 0, .int .u64 0, .int .u64 0, .int .u64 3, .int .u64 2, .int .u64 0, .int .u64 0, .int .u64 0, .int .u64 0, .int .u64 1, .int .u64 9, .int .u64 0, .int .u64 0, .int .u64 0, .int .u64 9, .int .u64 1, .int .u64 0, .int .u64 0, .int .u64 2, .int .u64 0, .int .u64 0, .int .u64 0, .int .u64 0, .int .u64 18446744073709551613, .int .u64 0, .int .u64 0, .int .u64 0, .int .u64 0, .int .u64 18446744073709551607, .int .u64 0, .int .u64 0, .int .u64 0, .int .u64 0, .int .u64 1, .int .u64 0, .int .u64 0, .int .u64 0, .int .u64 0, .int .u64 0, .int .u64 2, .int .u64 1025, .int .u64 0, .int .u64 0, .int .u64 0, .int .u64 7, .int .u64 0, .int .u64 0, .int .u64 0, .int .u64 0, .int .u64 8, .int .u64 0, .int .u64 0, .int .u64 0, .int .u64 0, .int .u64 2, .int .u64 5, .int .u64 0, .int .u64 0, .int .u64 3, .int .u64 0, .int .u64 0, .int .u64 0, .int .u64 0, .int .u64 8, .int .u64 0, .int .u64 0, .int .u64 0, .int .u64 0, .int .u64 5, .int .u64 0, .int .u64 0, .int .u64 0, .int .u64 0, .int .u64 9, .int .u64 0, .int .u64 0, .int .u64 0, .int .u64 0, .int .u64 0, .int .u64 4, .int .u64 0, .int .u64 0, .int .u64 0, .int .u64 0, .int .u64 0, .int .u64 0, .int .u64 0, .int .u64 0, .int .u64 18446744073709551615, .int .u64 2, .int .u64 0, .int .u64 0, .int .u64 0, .int .u64 4, .int .u64 1, .int .u64 0, .int .u64 0, .int .u64 0, .int .u64 0, .int .u64 1, .int .u64 7, .int .u64 0, .int .u64 0, .int .u64 2, .int .u64 2, .int .u64 7, .int .u64 0, .int .u64 0, .int .u64 0, .int .u64 2, .int .u64 1025, .int .u64 0, .int .u64 0], .fixed⟩
  obtain ⟨M4, e4, g4, u4, n4⟩ := alloc_at M3 ⟨[.int .u64 515, .int .u64 0, .int .u64 1, .int .u64 0, .int .u64 1, .int .u64 1, .int .u64 0, .int .u64 1, .int .u64 1, .int .u64 2, .int .u64 0, .int .u64 0, .int .u64 1, .int .u64 0, .int .u64 1, .int .u64 0, .int .u64 33686529, .int .u64 0, .int .u64 0, .int .u64 0, .int .u64 0, .int .u64 0, .int .u64 1], .fixed⟩
  rw [k1, Option.bind_some] at hE
  simp only [int?_int, rvs, Int.reduceBEq, Int.reduceBNe, Int.cast_ofNat_Int, e2, of_C, e3, e4] at hE
  have u24 := u2.trans (u3.trans u4)
  have K4 := K1.upto u24
  have b2 : M4.get M1.n = some ⟨kT.flatMap encK, .fixed⟩ := (u3.trans u4).get g2
  have b3 : M4.get M2.n = some ⟨kT.flatMap encA, .fixed⟩ := u4.get g3
  have b4 : M4.get M3.n = some ⟨kT.flatMap encW, .fixed⟩ := g4
  obtain ⟨M5, r5, c5, gs5, d5, N5, p5, hN5, K5⟩ := known_loop (o1 := M1.n) (o2 := M2.n) (o3 := M3.n) 23 0 M4 _ _ _ _ 0 _ (by omega) (by omega) rfl K4 b2 b3 b4 (extK_ge (by omega)) (extK_ge (by omega)) (extK_ge (by omega))
  have p5 : p6_1 C prog.meth (some (s, 0)) (some (hd, 0)) (some (M1.n, 0)) 23 (.known 23) (some (M2.n, 0)) 23 (.known 23) (some (M3.n, 0)) 23 (.known 23) 0 M4 = _ := p5
  obtain ⟨M6, r6, p6, K6⟩ := known_shown K5
  obtain ⟨M7, r7, c7, gs7, d7, N7, p7, K7⟩ := known_errs K6 (by omega)
  obtain ⟨M8, p8⟩ := known_gone K7
  obtain ⟨M9, p9⟩ := known_none M8
  exact ⟨M9, c6 (hE.trans (p5.trans (p6.trans (p7.trans (p8.trans p9)))))⟩
end
theorem HelperKnown_law : ∀ avs M, M.Whole → okL M.n avs → ShowsArgs M [] avs → (∀ L, L = 1048576 → RoNew L Mem.empty M) → ∃ M', C 6 avs M = some (.bool true, M') := by
  intro avs M hM hok h _
  simp only [ShowsArgs] at h
  subst h
  exact HelperKnown_C M
end Go.Proofs.Ytidofnpfeibbfaa.M
