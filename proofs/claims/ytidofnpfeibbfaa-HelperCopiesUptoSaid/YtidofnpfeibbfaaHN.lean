import Derived.Test.YtidofnpfeibbfaaHB
set_option linter.unusedVariables false
set_option linter.unusedSimpArgs false
set_option linter.unnecessarySimpa false
set_option maxRecDepth 100000
namespace Go.Proofs.Ytidofnpfeibbfaa.M
open Go.Abs Go.RowKit
def encC (c : Int × SlV) : List AVal := [.int .i64 c.1, .sl c.2.1 c.2.2.1 c.2.2.2]
theorem encC2 : Enc 2 encC := fun _ => rfl
def Cps (M : Mem) (vs : List (Int × SlV)) (cl : List (Int × List Int)) : Prop := vs.map (fun v => (v.1, M.bytesAt v.2)) = cl.map (fun c => (c.1, some c.2))
def Tabs (M : Mem) (tv : SlV) (tabs : List (List Pr)) : Prop := ∃ tvs : List SlV, Sl M 1 encS tv.1 tv.2.1 tv.2.2 tvs ∧ tvs.length = tabs.length ∧ ∀ (i : Nat) (v : SlV) (T : List Pr), tvs[i]? = some v → tabs[i]? = some T → Sl M 2 encP v.1 v.2.1 v.2.2 T
structure DS (M : Mem) (role : Nat → Rj) (a : Option (Nat × Nat)) (l : Nat) (c : Cap) (L : List Deed) : Prop where
  len : L.length = l
  at_ : ∀ i (h : i < L.length), ∃ (p : Nat × Nat) (v : SlV), slPtr a c = some p ∧ Sta 4 M role (fun M => M.ldI .u8 p.1 (p.2 + i * 3) = some L[i].1 ∧ M.ldI .i64 p.1 (p.2 + i * 3 + 1) = some L[i].2.1 ∧ M.ldL p.1 (p.2 + i * 3 + 1 + 1) = some v ∧ PSv M v L[i].2.2)
structure FS (M : Mem) (role : Nat → Rj) (fv : SlV) (scr : List (List Deed)) : Prop where
  len : fv.2.1 = scr.length
  at_ : ∀ k (h : k < scr.length), ∃ (p : Nat × Nat) (dv : SlV), slPtr fv.1 fv.2.2 = some p ∧ Sta 4 M role (fun M => M.ldN p.1 (p.2 + k * 1) = some (some 116, .agg [.sl dv.1 dv.2.1 dv.2.2])) ∧ DS M role dv.1 dv.2.1 dv.2.2 scr[k]
structure Hd (M0 M : Mem) (role : Nat → Rj) (hs : List Nat) (cur : List (Option Nat)) (gs : List Gp) (ds : List Dt) (hd s : Nat) (tabs : List (List Pr)) (scr : List (List Deed)) (cl : List (Int × List Int)) (to : Int) : Prop where
  I : GS false KI M0 M role hs cur gs ds
  s0 : hs[0]? = some s
  rh : role hd = .other 1
  hM : M0.n ≤ hd
  obj : ∃ (tv fv cv : SlV) (vs : List (Int × SlV)), M.get hd = some ⟨[.ptr (some (s, 0)), .sl tv.1 tv.2.1 tv.2.2, .sl fv.1 fv.2.1 fv.2.2, .sl cv.1 cv.2.1 cv.2.2, .int .i64 to], .fixed⟩ ∧ Sta 4 M role (fun M => Tabs M tv tabs) ∧ FS M role fv scr ∧ Tail M 2 encC cv.1 cv.2.1 cv.2.2 vs ∧ (∀ o ∈ fpOf cv.1, o < M.n ∧ role o = .other 2 ∧ M0.n ≤ o) ∧ Sta 3 M role (fun M => Cps M vs cl)
  okT : tabs.length ≤ 4 ∧ ∀ T ∈ tabs, chk T = 0
  okS : scr.length ≤ 8 ∧ ∀ L ∈ scr, L.length ≤ 1048576 ∧ ∀ d ∈ L, DeedOk d ∧ d.2.2.length ≤ 1048576
  okC : cl.length ≤ 8
section
variable {M0 M M' : Mem} {role role' : Nat → Rj} {hs : List Nat} {cur cur' : List (Option Nat)} {gs gs' : List Gp} {ds ds' : List Dt} {h i g N : Nat} {d : Dt} {hd s : Nat} {tabs : List (List Pr)} {scr : List (List Deed)} {cl : List (Int × List Int)} {to : Int}
theorem DS.fo {a : Option (Nat × Nat)} {l : Nat} {c : Cap} {L : List Deed} (h : DS M role a l c L) (F : Fo role role' M M') : DS M' role' a l c L := ⟨h.len, fun i hi => by
  obtain ⟨p, v, h1, h2⟩ := h.at_ i hi
  exact ⟨p, v, h1, h2.fo F (by decide) (by decide)⟩⟩
theorem FS.fo {fv : SlV} (h : FS M role fv scr) (F : Fo role role' M M') : FS M' role' fv scr := ⟨h.len, fun k hk => by
  obtain ⟨p, v, h1, h2, h3⟩ := h.at_ k hk
  exact ⟨p, v, h1, h2.fo F (by decide) (by decide), h3.fo F⟩⟩
theorem Hd.fj (H : Hd M0 M role hs cur gs ds hd s tabs scr cl to) (I' : GS false KI M0 M' role' hs cur' gs' ds') (F : Fj false role role' M M') : Hd M0 M' role' hs cur' gs' ds' hd s tabs scr cl to := by
  obtain ⟨tv, fv, cv, vs, gh, t4, f4, tl, hl, c3⟩ := H.obj
  have hlt := Mem.get_lt gh
  have keep : ∀ o, o < M.n → (∃ k, role o = .other k) → M'.get o = M.get o := fun o ho ⟨k, hk⟩ => F.get o ho (by rw [hk]; exact nofun)
  exact ⟨I', H.s0, (F.rl hd hlt).trans H.rh, H.hM, ⟨tv, fv, cv, vs, (keep hd hlt ⟨1, H.rh⟩).trans gh, t4.fj F, f4.fo F.fo, tl.same (fun o ho => keep o (hl o ho).1 ⟨2, (hl o ho).2.1⟩), fun o ho => ⟨by have := (hl o ho).1; have := F.n; omega, (F.rl o (hl o ho).1).trans (hl o ho).2.1, (hl o ho).2.2⟩, c3.fj F⟩, H.okT, H.okS, H.okC⟩
theorem Hd.upto (H : Hd M0 M role hs cur gs ds hd s tabs scr cl to) (k : Nat) (hu : M.Upto M') : Hd M0 M' (extK k role M.n) hs cur gs ds hd s tabs scr cl to := H.fj (H.I.extK k hu) (Fj.extK k role hu)
theorem GS.sz (H : GS false KI M0 M role hs cur gs ds) (hi : hs[i]? = some h) (hc : cur[i]? = some (some g)) (hd : ds[g]? = some d) : d.B.length ≤ 2048 := by
  obtain ⟨x, d', hx, hd'⟩ := H.at hc
  rw [hd] at hd'; cases hd'
  obtain ⟨_, _, hp, _⟩ := I_rd H hi hc hx hd
  exact hp.sz
theorem bytesO_at (hd : ds[g]? = some d) : bytesO ds (some g) = d.B := by show (match ds[g]? with | some d => d.B | none => []) = d.B; rw [hd]
theorem alive0_C (H : GS false KI M0 M role hs cur gs ds) (hi : hs[i]? = some h) (hc : cur[i]? = some (some g)) (hd : ds[g]? = some d) : C 40 [.ptr (some (h, 0))] M = some (.int .i64 0, M) := by
  have hE := p40_0_eq C prog.meth (some (h, 0)) M
  rcases I_load H hi hc hd 0 1 with ⟨e, q⟩ | ⟨e, q⟩
  · have : askE d.B.length 0 1 = 20 := by rcases ask01 d.B.length with h | h; exact absurd h e; exact h
    rw [this] at q
    rw [q, Option.bind_some] at hE
    simp only [int?_int, rvs, Int.reduceBEq, Int.reduceBNe, Int.cast_ofNat_Int] at hE
    exact c40 hE
  · rw [q, Option.bind_some] at hE
    simp only [int?_int, rvs, Int.reduceBEq, Int.reduceBNe, Int.cast_ofNat_Int] at hE
    exact c40 hE
theorem within0_C (H : Hd M0 M role hs cur gs ds hd s tabs scr cl to) (hc : cur[0]? = some (some g)) (hd' : ds[g]? = some d) {x n : Nat} (hx : x < 2 ^ 64) (hn : n < 2 ^ 64) : C 66 [.ptr (some (hd, 0)), .int .u64 (x : Int), .int .u64 (n : Int)] M = some (.bool (inW d.B x n), M) := by
  have hE := p66_0_eq C prog.meth (some (hd, 0)) (x : Int) (n : Int) M
  have ln := I_len H.I H.s0 hc
  rw [bytesO_at hd'] at ln
  have hB := H.I.sz H.s0 hc hd'
  obtain ⟨tv, fv, cv, vs, gh, _⟩ := H.obj
  have w1 : IntKind.wrap .u64 ((d.B.length : Nat) : Int) = ((d.B.length : Nat) : Int) := by rw [wu64]; omega
  simp only [int?_int, rvs, Int.reduceBEq, Int.reduceBNe, Int.cast_ofNat_Int, Nat.zero_add, ldP_at gh] at hE
  rw [ln, Option.bind_some] at hE
  simp only [int?_int, rvs, Int.reduceBEq, Int.reduceBNe, Int.cast_ofNat_Int, w1] at hE
  unfold inW
  by_cases h1 : x ≤ d.B.length
  · have q : ((x : Nat) : Int) ≤ ((d.B.length : Nat) : Int) := by omega
    have w2 : IntKind.wrap .u64 (((d.B.length : Nat) : Int) - (x : Int)) = ((d.B.length - x : Nat) : Int) := by rw [wu64]; omega
    simp only [q, decide_true, cond_true, w2] at hE
    have e : decide (((n : Nat) : Int) ≤ ((d.B.length - x : Nat) : Int)) = decide (x ≤ d.B.length ∧ n ≤ d.B.length - x) := by
      by_cases h2 : n ≤ d.B.length - x
      · rw [decide_eq_true (by omega), decide_eq_true ⟨h1, h2⟩]
      · rw [decide_eq_false (by omega), decide_eq_false (fun h => h2 h.2)]
    rw [e] at hE
    exact c66 hE
  · have q : ¬ (((x : Nat) : Int) ≤ ((d.B.length : Nat) : Int)) := by omega
    simp only [q, decide_false, cond_false] at hE
    rw [decide_eq_false (fun h => h1 h.1)]
    exact c66 hE
theorem doneH_C (e : Int) (M : Mem) : C 67 [.int .i64 e] M = some (.int .u64 (cond (e == 0) 1 0), M) := by
  have hE := p67_0_eq C prog.meth e M
  refine c67 (hE.trans ?_)
  cases (e == 0) <;> rfl
def Out (M0 M : Mem) (role : Nat → Rj) (hs : List Nat) (cur : List (Option Nat)) (ds : List Dt) (hd s : Nat) (tabs : List (List Pr)) (scr : List (List Deed)) (N : Nat) (σ : HSt) (M' : Mem) : Prop :=
  ∃ role' cur' gs' ds', Hd M0 M' role' hs cur' gs' ds' hd s tabs scr σ.cl σ.to ∧ Sw 0 σ.B N cur ds cur' ds' ∧ Fo role role' M M'
theorem Out.same (H : Hd M0 M role hs cur gs ds hd s tabs scr cl to) (hc : cur[0]? = some (some g)) (hd' : ds[g]? = some d) (hN : d.mv ≤ N) : Out M0 M role hs cur ds hd s tabs scr N ⟨d.B, cl, to⟩ M :=
  ⟨role, cur, gs, ds, H, Sw.refl hc hd' hN, Fo.refl _ _⟩
theorem Out.fj (H : Hd M0 M role hs cur gs ds hd s tabs scr cl to) {e : Dt} (I' : GS false KI M0 M' role' hs cur' gs' ds') (F : Fj false role role' M M') (S : Sw 0 e.B N cur ds cur' ds') : Out M0 M role hs cur ds hd s tabs scr N ⟨e.B, cl, to⟩ M' :=
  ⟨role', cur', gs', ds', H.fj I' F, S, F.fo⟩
theorem inW_iff {B : List Int} {x y : Nat} : inW B x y = true ↔ x ≤ B.length ∧ y ≤ B.length - x := by unfold inW; simp
theorem help1_C (H : Hd M0 M role hs cur gs ds hd s tabs scr cl to) (hc : cur[0]? = some (some g)) (hd' : ds[g]? = some d) {x y z : Nat} (hx : x < 2 ^ 64) (hy : y < 2 ^ 64) :
    C 47 [.ptr (some (hd, 0)), .int .i32 1, .int .u64 (x : Int), .int .u64 (y : Int), .int .u64 (z : Int)] M = some (.int .u64 (if inW d.B x y then ldV d.B x y else 0), M) := by
  have hE := p47_0_eq C prog.meth (some (hd, 0)) 1 (x : Int) (y : Int) (z : Int) M
  have hE1 := p47_1_eq C prog.meth (some (hd, 0)) (x : Int) (y : Int) M
  have hB := H.I.sz H.s0 hc hd'
  obtain ⟨tv, fv, cv, vs, gh, _⟩ := H.obj
  have z1 : ((1 : Int) == 1) = true := by decide
  rw [z1, cond_true] at hE
  rw [within0_C H hc hd' hx hy, Option.bind_some] at hE1
  simp only [int?_int, rvs, Int.reduceBEq, Int.reduceBNe, Int.cast_ofNat_Int] at hE1
  cases hin : inW d.B x y with
  | false =>
    simp only [hin, Bool.not_false, cond_true] at hE1
    exact c47 (hE.trans hE1)
  | true =>
    obtain ⟨i1, i2⟩ := inW_iff.1 hin
    have wx : IntKind.wrap .i64 (x : Int) = (x : Int) := wrap_i64 (by omega) (by omega)
    have wy : IntKind.wrap .i64 (y : Int) = (y : Int) := wrap_i64 (by omega) (by omega)
    simp only [hin, Bool.not_true, cond_false, Option.bind_some, Nat.zero_add, ldP_at gh, List.getElem?_cons_zero, AVal.ptr?, wx, wy] at hE1
    rw [if_pos rfl]
    unfold ldV
    rcases I_load H.I H.s0 hc hd' (x : Int) (y : Int) with ⟨e, q⟩ | ⟨e, q⟩
    · rw [q, Option.bind_some] at hE1
      have e' : (askE d.B.length (x : Int) (y : Int) != 0) = true := by simp [e]
      simp only [int?_int, rvs, Int.reduceBEq, Int.reduceBNe, Int.cast_ofNat_Int, e'] at hE1
      rw [if_neg e]
      exact c47 (hE.trans hE1)
    · rw [q, Option.bind_some] at hE1
      simp only [int?_int, rvs, Int.reduceBEq, Int.reduceBNe, Int.cast_ofNat_Int, Int.toNat_natCast] at hE1
      rw [if_pos e]
      exact c47 (hE.trans hE1)
theorem help2_C (H : Hd M0 M role hs cur gs ds hd s tabs scr cl to) (hc : cur[0]? = some (some g)) (hd' : ds[g]? = some d) (hN : d.mv ≤ N) {x y z : Nat} (hx : x < 2 ^ 64) (hy : y < 2 ^ 64) :
    ∃ M', C 47 [.ptr (some (hd, 0)), .int .i32 2, .int .u64 (x : Int), .int .u64 (y : Int), .int .u64 (z : Int)] M = some (.int .u64 (if inW d.B x y ∧ askE d.B.length x y = 0 then 1 else 0), M') ∧
      Out M0 M role hs cur ds hd s tabs scr N (if inW d.B x y ∧ askE d.B.length x y = 0 then ⟨storeB d.B x y z, cl, to⟩ else ⟨d.B, cl, to⟩) M' := by
  have hE := p47_0_eq C prog.meth (some (hd, 0)) 2 (x : Int) (y : Int) (z : Int) M
  have hB := H.I.sz H.s0 hc hd'
  obtain ⟨tv, fv, cv, vs, gh, _⟩ := H.obj
  have z1 : ((2 : Int) == 1) = false := by decide
  have z2 : ((2 : Int) == 2) = true := by decide
  rw [z1, cond_false, z2, cond_true] at hE
  rw [within0_C H hc hd' hx hy, Option.bind_some] at hE
  simp only [int?_int, rvs, Int.reduceBEq, Int.reduceBNe, Int.cast_ofNat_Int] at hE
  cases hin : inW d.B x y with
  | false =>
    simp only [hin, Bool.not_false, cond_true] at hE
    refine ⟨M, c47 hE, ?_⟩
    rw [if_neg (by simp)]
    exact Out.same H hc hd' hN
  | true =>
    obtain ⟨i1, i2⟩ := inW_iff.1 hin
    have wx : IntKind.wrap .i64 (x : Int) = (x : Int) := wrap_i64 (by omega) (by omega)
    have wy : IntKind.wrap .i64 (y : Int) = (y : Int) := wrap_i64 (by omega) (by omega)
    simp only [hin, Bool.not_true, cond_false, Option.bind_some, Nat.zero_add, ldP_at gh, List.getElem?_cons_zero, AVal.ptr?, wx, wy] at hE
    rcases I_store H.I H.s0 hc hd' (x : Int) (y : Int) (z : Int) with ⟨e, q⟩ | ⟨e, M1, role1, gs1, q, I1, F1⟩
    · rw [q, Option.bind_some] at hE
      have e' : (askE d.B.length (x : Int) (y : Int) == 0) = false := by simp [e]
      simp only [int?_int, rvs, Int.reduceBEq, Int.reduceBNe, Int.cast_ofNat_Int, doneH_C, e'] at hE
      refine ⟨M, ?_, ?_⟩
      · rw [if_neg (fun h => e h.2)]; exact c47 hE
      · rw [if_neg (fun h => e h.2)]; exact Out.same H hc hd' hN
    · rw [q, Option.bind_some] at hE
      simp only [int?_int, rvs, Int.reduceBEq, Int.reduceBNe, Int.cast_ofNat_Int, doneH_C] at hE
      refine ⟨M1, ?_, ?_⟩
      · rw [if_pos ⟨rfl, e⟩]; exact c47 hE
      · rw [if_pos ⟨rfl, e⟩]
        refine Out.fj H (e := ⟨storeB d.B x y z, (oE cur g d).a, (oE cur g d).t, (oE cur g d).mv⟩) I1 F1 (H.I.sw hc hd' _ ?_)
        show (oE cur g d).mv ≤ N
        unfold oE; split
        · exact Nat.zero_le _
        · exact hN
end
end Go.Proofs.Ytidofnpfeibbfaa.M
set_option linter.unusedVariables false
set_option linter.unusedSimpArgs false
set_option linter.unnecessarySimpa false
set_option maxRecDepth 100000
namespace Go.Proofs.Ytidofnpfeibbfaa.M
open Go.Abs Go.RowKit
theorem xor_odd (x y : Nat) (hx : x < 2 ^ 64) (hy : y < 2 ^ 64) : (IntKind.wrap .u64 ((BitVec.ofInt (IntKind.bits .u64) (IntKind.wrap .u64 ((BitVec.ofInt (IntKind.bits .u64) (x : Int) ^^^ BitVec.ofInt (IntKind.bits .u64) (y : Int)).toNat : Nat)) &&& BitVec.ofInt (IntKind.bits .u64) 1).toNat : Nat) != 0) = !decide (x % 2 = y % 2) := by
  have h1 := xor_nat x y hx hy
  have h2 : x ^^^ y < 2 ^ 64 := Nat.xor_lt_two_pow hx hy
  have h3 : IntKind.wrap .u64 (((x ^^^ y : Nat)) : Int) = ((x ^^^ y : Nat) : Int) := by rw [wu64]; omega
  have h4 := and_nat (x ^^^ y) 1 h2 (by omega)
  rw [h1, h3, show (1 : Int) = ((1 : Nat) : Int) from rfl, h4, Nat.and_one_is_mod]
  have h5 : IntKind.wrap .u64 ((((x ^^^ y) % 2 : Nat)) : Int) = (((x ^^^ y) % 2 : Nat) : Int) := by rw [wu64]; omega
  rw [h5]
  have hb := Nat.testBit_xor x y 0
  rw [Nat.testBit_zero, Nat.testBit_zero, Nat.testBit_zero] at hb
  have a1 : (x ^^^ y) % 2 = 0 ∨ (x ^^^ y) % 2 = 1 := by omega
  have a2 : x % 2 = 0 ∨ x % 2 = 1 := by omega
  have a3 : y % 2 = 0 ∨ y % 2 = 1 := by omega
  rcases a1 with a1 | a1 <;> rcases a2 with a2 | a2 <;> rcases a3 with a3 | a3 <;> rw [a1, a2, a3] at hb <;> first | (exact absurd hb (by decide)) | (rw [a1, a2, a3]; rfl)
section
variable {M0 M M' : Mem} {role role' : Nat → Rj} {hs : List Nat} {cur cur' : List (Option Nat)} {gs gs' : List Gp} {ds ds' : List Dt} {h i g N : Nat} {d : Dt} {hd s : Nat} {tabs : List (List Pr)} {scr : List (List Deed)} {cl : List (Int × List Int)} {to : Int}
theorem oE_mv (hN : d.mv ≤ N) : (oE cur g d).mv ≤ N := by
  unfold oE; split
  · exact Nat.zero_le _
  · exact hN
theorem move_C (H : Hd M0 M role hs cur gs ds hd s tabs scr cl to) (hc : cur[0]? = some (some g)) (hd' : ds[g]? = some d) (hN : d.mv ≤ N) (hN2 : N < 2 ^ 62) (n : Int) (ah : Bool) :
    ∃ M', C 69 [.ptr (some (hd, 0)), .int .i64 n, .bool ah] M = some (.int .u64 (if mayE d.B.length n = 0 then 1 else 0), M') ∧
      Out M0 M role hs cur ds hd s tabs scr (N + 1) (if mayE d.B.length n = 0 then ⟨if ah then headB d.B n else tailB d.B n, cl, to⟩ else ⟨d.B, cl, to⟩) M' := by
  have hE := p69_0_eq C prog.meth (some (hd, 0)) n ah M
  have hE1 := p69_1_eq C prog.meth (some (hd, 0)) n ah M
  have ln := I_len H.I H.s0 hc
  rw [bytesO_at hd'] at ln
  have hB := H.I.sz H.s0 hc hd'
  obtain ⟨tv, fv, cv, vs, gh, _⟩ := H.obj
  have w1 : IntKind.wrap .i64 (0 - (d.B.length : Int)) = -(d.B.length : Int) := by rw [wrap_i64 (by omega) (by omega)]; omega
  have w2 : IntKind.wrap .i64 (2048 - (d.B.length : Int)) = 2048 - (d.B.length : Int) := wrap_i64 (by omega) (by omega)
  simp only [int?_int, rvs, Int.reduceBEq, Int.reduceBNe, Int.cast_ofNat_Int, Nat.zero_add, ldP_at gh, ln, w1, w2] at hE
  by_cases c1 : n < -(d.B.length : Int)
  · simp only [c1, decide_true, cond_true] at hE
    have e : mayE d.B.length n ≠ 0 := by unfold mayE; rw [if_neg (by omega), if_pos c1]; decide
    rw [if_neg e, if_neg e]
    exact ⟨M, c69 hE, Out.same H hc hd' (by omega)⟩
  by_cases c2 : n > 2048 - (d.B.length : Int)
  · simp only [c1, c2, decide_true, decide_false, cond_true, cond_false] at hE
    have e : mayE d.B.length n ≠ 0 := by unfold mayE; rw [if_pos c2]; decide
    rw [if_neg e, if_neg e]
    exact ⟨M, c69 hE, Out.same H hc hd' (by omega)⟩
  have e : mayE d.B.length n = 0 := by unfold mayE; rw [if_neg c2, if_neg c1]
  rw [if_pos e, if_pos e]
  simp only [c1, c2, decide_false, cond_false] at hE
  obtain ⟨M1, role1, gs1, x1, k1, I1, F1, hx1⟩ := I_own H.I H.s0 hc hd'
  have hd1 := o_dat (cur := cur) hd'
  obtain ⟨o1, ho1, hp1, _⟩ := I_rd I1 H.s0 (o_cur hc) hx1 hd1
  have hBE := oE_B cur g d
  have hmv := oE_mv (cur := cur) (g := g) hN
  simp only [int?_int, rvs, Int.reduceBEq, Int.reduceBNe, Int.cast_ofNat_Int, Nat.zero_add, ldP_at gh] at hE1
  rw [k1, Option.bind_some] at hE1
  simp only [int?_int, rvs, Int.reduceBEq, Int.reduceBNe, Int.cast_ofNat_Int] at hE1
  cases ah with
  | true =>
    rcases PHead_C hp1 n (by omega) with ⟨e', _⟩ | ⟨_, M2, o', k2, q, n2, b2, f2⟩
    · rw [hBE] at e'; exact absurd e e'
    · rw [hBE] at q
      obtain ⟨role2, I2, F2⟩ := I1.write hx1 hd1 (fp' := [o']) (e := ⟨headB d.B n, (if n > (oE cur g d).a then 64 else ((oE cur g d).a - n).toNat), (if n > (oE cur g d).a then 64 else (oE cur g d).t), (oE cur g d).mv + 1⟩) (b2.mono (fun y hy => by rw [ho1]; simpa using hy)) (fun y hy => by
        simp only [List.mem_singleton] at hy
        subst hy
        rw [ho1]
        rcases f2 with h | h
        · exact .inl (by simp [h])
        · exact .inr h) ⟨o', rfl, q⟩
      simp only [cond_true] at hE1
      rw [k2, Option.bind_some] at hE1
      simp only [int?_int, rvs, Int.reduceBEq, Int.reduceBNe, Int.cast_ofNat_Int, doneH_C] at hE1
      exact ⟨M2, c69 (hE.trans hE1), Out.fj H (e := ⟨headB d.B n, _, _, _⟩) I2 (F1.trans F2) (H.I.sw hc hd' _ (by show (oE cur g d).mv + 1 ≤ N + 1; omega))⟩
  | false =>
    rcases PTail_C hp1 n (by omega) with ⟨e', _⟩ | ⟨_, M2, o', k2, q, n2, b2, f2⟩
    · rw [hBE] at e'; exact absurd e e'
    · rw [hBE] at q
      obtain ⟨role2, I2, F2⟩ := I1.write hx1 hd1 (fp' := [o']) (e := ⟨tailB d.B n, (if n > (oE cur g d).t then 64 else (oE cur g d).a), (if n > (oE cur g d).t then 64 else ((oE cur g d).t - n).toNat), (oE cur g d).mv + 1⟩) (b2.mono (fun y hy => by rw [ho1]; simpa using hy)) (fun y hy => by
        simp only [List.mem_singleton] at hy
        subst hy
        rw [ho1]
        rcases f2 with h | h
        · exact .inl (by simp [h])
        · exact .inr h) ⟨o', rfl, q⟩
      simp only [cond_false] at hE1
      rw [k2, Option.bind_some] at hE1
      simp only [int?_int, rvs, Int.reduceBEq, Int.reduceBNe, Int.cast_ofNat_Int, doneH_C] at hE1
      exact ⟨M2, c69 (hE.trans hE1), Out.fj H (e := ⟨tailB d.B n, _, _, _⟩) I2 (F1.trans F2) (H.I.sw hc hd' _ (by show (oE cur g d).mv + 1 ≤ N + 1; omega))⟩
theorem ask2 {len k : Nat} (h : k + 2 ≤ len) : askE len (k : Int) 2 = 0 := by
  unfold askE
  rw [if_neg (by omega), if_neg (by omega), if_neg (by omega), if_neg (by omega)]
theorem wordB_eq {B : List Int} (hw : wfB B) {k : Nat} (hk : k + 2 ≤ B.length) : ((wordB B k : Nat) : Int) = B[k]'(by omega) * 256 + B[k + 1]'(by omega) ∧ wordB B k ≤ 65535 := by
  have h0 := hw _ (List.getElem_mem (show k < B.length by omega))
  have h1 := hw _ (List.getElem_mem (show k + 1 < B.length by omega))
  have e0 : B.getD k 0 = B[k]'(by omega) := by rw [List.getD_eq_getElem?_getD, List.getElem?_eq_getElem (by omega), Option.getD_some]
  have e1 : B.getD (k + 1) 0 = B[k + 1]'(by omega) := by rw [List.getD_eq_getElem?_getD, List.getElem?_eq_getElem (by omega), Option.getD_some]
  unfold wordB
  rw [e0, e1]
  omega
theorem load16_C (I : GS false KI M0 M role hs cur gs ds) (hi : hs[i]? = some h) (hc : cur[i]? = some (some g)) (hd' : ds[g]? = some d) (hw : wfB d.B) {k : Nat} (hk : k + 2 ≤ d.B.length) : C 64 [.ptr (some (h, 0)), .int .i64 (k : Int), .int .i64 2] M = some (.tup [.int .u64 (wordB d.B k : Int), .int .i64 0], M) := by
  rcases I_load I hi hc hd' (k : Int) 2 with ⟨e, q⟩ | ⟨e, q⟩
  · exact absurd (ask2 hk) e
  · rw [load2 hw hk] at q
    rw [(wordB_eq hw hk).1]; exact q
theorem store16_C (I : GS false KI M0 M role hs cur gs ds) (hi : hs[i]? = some h) (hc : cur[i]? = some (some g)) (hd' : ds[g]? = some d) (hN : d.mv ≤ N) {k : Nat} (hk : k + 2 ≤ d.B.length) {V : Int} (hV : 0 ≤ V ∧ V < 65536) :
    ∃ M' role' gs' cur' ds' g' d', C 68 [.ptr (some (h, 0)), .int .i64 (k : Int), .int .i64 2, .int .u64 V] M = some (.int .i64 0, M') ∧ GS false KI M0 M' role' hs cur' gs' ds' ∧ Fj false role role' M M' ∧ Sw i ((d.B.set k (V / 256)).set (k + 1) (V % 256)) N cur ds cur' ds' ∧ cur'[i]? = some (some g') ∧ ds'[g']? = some d' ∧ d'.B = (d.B.set k (V / 256)).set (k + 1) (V % 256) ∧ d'.mv ≤ N := by
  rcases I_store I hi hc hd' (k : Int) 2 V with ⟨e, q⟩ | ⟨e, M1, role1, gs1, q, I1, F1⟩
  · exact absurd (ask2 hk) e
  · have hs2 := store2 (B := d.B) hk hV
    have hdat := o_dat (cur := cur) hd'
    have hlt : oG cur ds.length g < (oD cur ds g d).length := (List.getElem?_eq_some_iff.1 hdat).1
    refine ⟨M1, role1, gs1, _, _, oG cur ds.length g, ⟨storeB d.B (k : Int) 2 V, (oE cur g d).a, (oE cur g d).t, (oE cur g d).mv⟩, q, I1, F1, ?_, o_cur hc, ?_, hs2, oE_mv hN⟩
    · have := I.sw hc hd' ⟨storeB d.B (k : Int) 2 V, (oE cur g d).a, (oE cur g d).t, (oE cur g d).mv⟩ (N := N) (oE_mv hN)
      simp only at this
      rw [hs2] at this
      rw [hs2]; exact this
    · rw [List.getElem?_set, if_pos rfl, if_pos hlt]
theorem fixH_C (H : Hd M0 M role hs cur gs ds hd s tabs scr cl to) (hc : cur[0]? = some (some g)) (hd' : ds[g]? = some d) (hN : d.mv ≤ N) (hw : wfB d.B) {x y z : Nat} (hx : x < 2 ^ 64) (hy : y < 2 ^ 64) :
    ∃ M', C 70 [.ptr (some (hd, 0)), .int .u64 (x : Int), .int .u64 (y : Int), .int .u16 ((z % 65536 : Nat) : Int)] M = some (.int .u64 (if mayF d.B.length x y then 1 else 0), M') ∧
      Out M0 M role hs cur ds hd s tabs scr N (if mayF d.B.length x y then ⟨fixB d.B x y z (updN (wordB d.B x) (wordB d.B y) (z % 65536)), cl, to⟩ else ⟨d.B, cl, to⟩) M' := by
  have hE := p70_0_eq C prog.meth (some (hd, 0)) (x : Int) (y : Int) ((z % 65536 : Nat) : Int) M
  have hB := H.I.sz H.s0 hc hd'
  obtain ⟨tv, fv, cv, vs, gh, _⟩ := H.obj
  have w1 := within0_C H hc hd' hx (n := 2) (by omega)
  have w2 := within0_C H hc hd' hy (n := 2) (by omega)
  rw [show (((2 : Nat)) : Int) = 2 from rfl] at w1 w2
  have no : mayF d.B.length x y = false → p70_0 C prog.meth (some (hd, 0)) (x : Int) (y : Int) ((z % 65536 : Nat) : Int) M = some (.int .u64 0, M) → ∃ M', C 70 [.ptr (some (hd, 0)), .int .u64 (x : Int), .int .u64 (y : Int), .int .u16 ((z % 65536 : Nat) : Int)] M = some (.int .u64 (if mayF d.B.length x y then 1 else 0), M') ∧
      Out M0 M role hs cur ds hd s tabs scr N (if mayF d.B.length x y then ⟨fixB d.B x y z (updN (wordB d.B x) (wordB d.B y) (z % 65536)), cl, to⟩ else ⟨d.B, cl, to⟩) M' := fun hm hq => by
    rw [hm]
    exact ⟨M, c70 hq, Out.same H hc hd' hN⟩
  rw [w1, Option.bind_some] at hE
  simp only [AVal.bool?, Option.bind_some] at hE
  rw [xor_odd x y hx hy] at hE
  by_cases c1 : inW d.B x 2 = true
  rotate_left
  · have c1' : inW d.B x 2 = false := by simpa using c1
    simp only [c1', Bool.not_false, cond_true] at hE
    refine no ?_ hE
    unfold mayF
    rw [decide_eq_false (show ¬ x + 2 ≤ d.B.length from fun h => c1 (inW_iff.2 ⟨by omega, by omega⟩))]; rfl
  obtain ⟨i1, i2⟩ := inW_iff.1 c1
  simp only [c1, Bool.not_true, cond_false] at hE
  rw [w2, Option.bind_some] at hE
  simp only [AVal.bool?, Option.bind_some] at hE
  by_cases c2 : inW d.B y 2 = true
  rotate_left
  · have c2' : inW d.B y 2 = false := by simpa using c2
    simp only [c2', Bool.not_false, cond_true] at hE
    refine no ?_ hE
    unfold mayF
    rw [decide_eq_false (show ¬ y + 2 ≤ d.B.length from fun h => c2 (inW_iff.2 ⟨by omega, by omega⟩))]; simp
  obtain ⟨i3, i4⟩ := inW_iff.1 c2
  simp only [c2, Bool.not_true, cond_false] at hE
  by_cases c3 : x = y
  · subst c3
    simp only [beq_self_eq_true, cond_true] at hE
    exact no (by unfold mayF; simp) hE
  have e3 : ((x : Int) == (y : Int)) = false := by simp; omega
  rw [e3, cond_false] at hE
  by_cases c4 : x % 2 = y % 2
  rotate_left
  · rw [decide_eq_false c4] at hE
    simp only [Bool.not_false, cond_true] at hE
    exact no (by unfold mayF; rw [decide_eq_false c4]; simp) hE
  rw [decide_eq_true c4] at hE
  simp only [Bool.not_true, cond_false] at hE
  have hm : mayF d.B.length x y = true := by unfold mayF; rw [decide_eq_true c4, decide_eq_true c3, decide_eq_true (show x + 2 ≤ d.B.length by omega), decide_eq_true (show y + 2 ≤ d.B.length by omega)]; rfl
  rw [if_pos hm, if_pos hm]
  have hx2 : x + 2 ≤ d.B.length := by omega
  have hy2 : y + 2 ≤ d.B.length := by omega
  have wx : IntKind.wrap .i64 (x : Int) = (x : Int) := wrap_i64 (by omega) (by omega)
  have wy : IntKind.wrap .i64 (y : Int) = (y : Int) := wrap_i64 (by omega) (by omega)
  have hE1 := p70_1_eq C prog.meth (some (hd, 0)) (x : Int) (y : Int) ((z % 65536 : Nat) : Int) M
  simp only [int?_int, rvs, Int.reduceBEq, Int.reduceBNe, Int.cast_ofNat_Int, Nat.zero_add, ldP_at gh, wx, wy, load16_C H.I H.s0 hc hd' hw hx2, load16_C H.I H.s0 hc hd' hw hy2, bne_self_eq_false] at hE1
  obtain ⟨_, bX⟩ := wordB_eq hw hx2
  obtain ⟨_, bY⟩ := wordB_eq hw hy2
  have hE2 := p70_2_eq C prog.meth (some (hd, 0)) (x : Int) (y : Int) ((z % 65536 : Nat) : Int) (wordB d.B x : Int) (wordB d.B y : Int) M
  have hz : z % 65536 < 65536 := Nat.mod_lt _ (by omega)
  have wn : IntKind.wrap .u64 (((z % 65536 : Nat)) : Int) = ((z % 65536 : Nat) : Int) := by rw [wu64]; omega
  have wX : IntKind.wrap .u16 (wordB d.B x : Int) = (wordB d.B x : Int) := by rw [wu16]; omega
  have wY : IntKind.wrap .u16 (wordB d.B y : Int) = (wordB d.B y : Int) := by rw [wu16]; omega
  obtain ⟨M1, role1, gs1, cur1, ds1, g1, d1, s1, I1, F1, S1, hc1, hd1, hB1, hN1⟩ := store16_C H.I H.s0 hc hd' hN hy2 (V := ((z % 65536 : Nat) : Int)) (by omega)
  obtain ⟨r1, r2⟩ := updN_C (n := z % 65536) bX bY (by omega)
  have wr : IntKind.wrap .u64 (updN (wordB d.B x) (wordB d.B y) (z % 65536) : Int) = (updN (wordB d.B x) (wordB d.B y) (z % 65536) : Int) := by rw [wu64]; omega
  obtain ⟨M2, role2, gs2, cur2, ds2, g2, d2, s2, I2, F2, S2, hc2, hd2, hB2, hN2⟩ := store16_C I1 H.s0 hc1 hd1 hN1 (k := x) (by rw [hB1]; simp; omega) (V := (updN (wordB d.B x) (wordB d.B y) (z % 65536) : Int)) (by omega)
  have H1 := H.fj I1 F1
  obtain ⟨_, _, _, _, gh1, _⟩ := H1.obj
  have dn := doneH_C 0 Mem.empty
  simp only [int?_int, rvs, Int.reduceBEq, Int.reduceBNe, Int.cast_ofNat_Int, Nat.zero_add, ldP_at gh, wy, wn, s1, bne_self_eq_false, ldP_at gh1, wX, wY, r1, wx, wr, s2, dn] at hE2
  rw [hB1] at S2 hB2
  refine ⟨M2, c70 (hE.trans (hE1.trans hE2)), role2, cur2, gs2, ds2, H1.fj I2 F2, S1.trans S2, (F1.trans F2).fo⟩
theorem way_C (H : Hd M0 M role hs cur gs ds hd s tabs scr cl to) (hc : cur[0]? = some (some g)) (hd' : ds[g]? = some d) (hN : d.mv ≤ N) (to' : Int) :
    ∃ M', M.st hd 4 [.int .i64 to'] = some M' ∧ Out M0 M role hs cur ds hd s tabs scr N ⟨d.B, cl, to'⟩ M' := by
  obtain ⟨tv, fv, cv, vs, gh, t4, f4, tl, hl, c3⟩ := H.obj
  obtain ⟨M1, s1, g1, n1, b1⟩ := st_at (i := 4) (vs := [.int .i64 to']) gh (by simp)
  simp only [overL_one, List.set_cons_succ, List.set_cons_zero] at g1
  have ne : ∀ o, (∃ k, role o = .other k ∧ k ≠ 1) → o ≠ hd := fun o ⟨k, hk, hk1⟩ e => by
    rw [e, H.rh] at hk
    cases hk; exact hk1 rfl
  have F : Fo role role M M1 := ⟨by omega, fun o ho ⟨k, hk, h1, _⟩ => b1.2 o ho (ne o ⟨k, hk, h1⟩), fun _ _ => rfl⟩
  have I1 : GS false KI M0 M1 role hs cur gs ds := H.I.oth (S := fun o => o = hd) b1 (fun y hy _ => by
    subst hy
    exact ⟨H.hM, by rw [H.rh]; exact nofun⟩) (fun _ _ => rfl)
  refine ⟨M1, s1, role, cur, gs, ds, ⟨I1, H.s0, H.rh, H.hM, ⟨tv, fv, cv, vs, g1, t4.fo F (by decide) (by decide), f4.fo F, tl.same (fun o ho => b1.2 o (hl o ho).1 (ne o ⟨2, (hl o ho).2.1, by decide⟩)), fun o ho => ⟨by rw [n1]; exact (hl o ho).1, (hl o ho).2⟩, c3.fo F (by decide) (by decide)⟩, H.okT, H.okS, H.okC⟩, Sw.refl hc hd' hN, F⟩
end
end Go.Proofs.Ytidofnpfeibbfaa.M
set_option linter.unusedVariables false
set_option linter.unusedSimpArgs false
set_option linter.unnecessarySimpa false
set_option maxRecDepth 100000
namespace Go.Proofs.Ytidofnpfeibbfaa.M
open Go.Abs Go.RowKit
section
variable {M0 M M' : Mem} {role role' : Nat → Rj} {hs : List Nat} {cur cur' : List (Option Nat)} {gs gs' : List Gp} {ds ds' : List Dt} {h i g N : Nat} {d : Dt} {hd s : Nat} {tabs : List (List Pr)} {scr : List (List Deed)} {cl : List (Int × List Int)} {to : Int}
theorem Cps.length {vs : List (Int × SlV)} (h : Cps M vs cl) : vs.length = cl.length := by simpa using congrArg List.length h
theorem Cps.snoc {vs : List (Int × SlV)} (h : Cps M vs cl) {p : Int} {v : SlV} {xs : List Int} (hv : M.bytesAt v = some xs) : Cps M (vs ++ [(p, v)]) (cl ++ [(p, xs)]) := by
  unfold Cps at *
  rw [List.map_append, List.map_append, h, List.map_singleton, List.map_singleton, hv]
theorem help6_C (H : Hd M0 M role hs cur gs ds hd s tabs scr cl to) (hc : cur[0]? = some (some g)) (hd' : ds[g]? = some d) (hN : d.mv ≤ N) (x : Nat) :
    ∃ M', p47_4 C prog.meth (some (hd, 0)) (x : Int) M = some (.int .u64 (if x < 8 ∧ cl.length < 8 then 1 else 0), M') ∧
      Out M0 M role hs cur ds hd s tabs scr N (if x < 8 ∧ cl.length < 8 then ⟨d.B, cl ++ [((x : Int), d.B)], to⟩ else ⟨d.B, cl, to⟩) M' := by
  have hE := p47_4_eq C prog.meth (some (hd, 0)) (x : Int) M
  have hE1 := p47_6_eq C prog.meth (some (hd, 0)) (x : Int) M
  have hB := H.I.sz H.s0 hc hd'
  obtain ⟨tv, fv, cv, vs, gh, t4, f4, tl, hl, c3⟩ := H.obj
  have hlen : cv.2.1 = cl.length := by rw [← tl.length]; exact c3.now.length
  by_cases h1 : x < 8
  rotate_left
  · have q : ((x : Int) ≥ 8) := by omega
    simp only [q, decide_true, cond_true] at hE
    rw [if_neg (fun h => h1 h.1), if_neg (fun h => h1 h.1)]
    exact ⟨M, hE, Out.same H hc hd' hN⟩
  have q : ¬ ((x : Int) ≥ 8) := by omega
  simp only [int?_int, rvs, Int.reduceBEq, Int.reduceBNe, Int.cast_ofNat_Int, q, Nat.zero_add, ldL_at gh] at hE
  by_cases h2 : cl.length < 8
  rotate_left
  · have q2 : ((cv.2.1 : Int) ≥ 8) := by omega
    simp only [q2, decide_true, cond_true] at hE
    rw [if_neg (fun h => h2 h.2), if_neg (fun h => h2 h.2)]
    exact ⟨M, hE, Out.same H hc hd' hN⟩
  have q2 : ¬ ((cv.2.1 : Int) ≥ 8) := by omega
  simp only [q2, decide_false, cond_false] at hE
  rw [if_pos ⟨h1, h2⟩, if_pos ⟨h1, h2⟩]
  obtain ⟨M1, w, k1, u1, ow, fw⟩ := I_bytes H.I H.s0 hc
  rw [bytesO_at hd'] at ow
  have gh1 := u1.get gh
  have hlt := Mem.get_lt gh
  have wx : IntKind.wrap .i64 (x : Int) = (x : Int) := wrap_i64 (by omega) (by omega)
  obtain ⟨M3, k3, tl3, n3, b3, g3⟩ := Tail.push (bytes := 32) (y := ((x : Int), w)) (cs := [.int .i64 (x : Int), .sl w.1 w.2.1 w.2.2]) (tl.same (M' := M1) (fun o ho => u1.2 o (hl o ho).1)) encC2 (by omega) rfl (by omega) (fun o ho => by have := (hl o ho).1; have := u1.1; omega)
  have hne : ∀ o ∈ fpOf cv.1, o ≠ hd := fun o ho e => by
    have := (hl o ho).2.1
    rw [e, H.rh] at this; cases this
  have gh3 : M3.get hd = _ := (b3.2 hd (by have := u1.1; omega) (fun h => hne hd h rfl)).trans gh1
  obtain ⟨M4, s4, g4, n4, b4⟩ := st_at (i := 3) (vs := [.sl (some (M1.n + 1, 0)) (cv.2.1 + 1) (.unk 0)]) gh3 (by simp)
  simp only [overL_one, List.set_cons_succ, List.set_cons_zero] at g4
  have st1 : M1.still hd 3 [.sl cv.1 cv.2.1 cv.2.2] = true := still1 (by rw [ld_fix gh1]; rfl)
  obtain ⟨Ma, ea, ga, ua, na⟩ := alloc_at M1 ⟨[.int .i64 (x : Int), .sl w.1 w.2.1 w.2.2], .fixed⟩
  have st2 : (M1.alloc ⟨[.int .i64 (x : Int), .sl w.1 w.2.1 w.2.2], .fixed⟩).still hd 3 [.sl cv.1 cv.2.1 cv.2.2] = true := by
    rw [ea]; exact still1 (by rw [ld_fix (ua.get gh1)]; rfl)
  simp only [int?_int, rvs, Int.reduceBEq, Int.reduceBNe, Int.cast_ofNat_Int, Nat.zero_add, ldL_at gh, ldP_at gh, k1, wx] at hE1
  rw [k3] at hE1
  simp only [int?_int, rvs, Int.reduceBEq, Int.reduceBNe, Int.cast_ofNat_Int, s4, st1, st2] at hE1
  have hu1 := u1.1
  let R : Nat → Rj := fun y => if y < M.n then role y else if y < M1.n then .other 3 else .other 2
  have rl : ∀ y, y < M.n → R y = role y := fun y hy => if_pos hy
  have r3 : ∀ y, M.n ≤ y → y < M1.n → R y = .other 3 := fun y h h' => by
    show (if y < M.n then role y else if y < M1.n then Rj.other 3 else .other 2) = _
    rw [if_neg (by omega), if_pos h']
  have r2 : ∀ y, M1.n ≤ y → R y = .other 2 := fun y h => by
    show (if y < M.n then role y else if y < M1.n then Rj.other 3 else .other 2) = _
    rw [if_neg (by omega), if_neg (by omega)]
  have bb : ∀ y, y < M1.n → y ≠ hd → y ∉ fpOf cv.1 → M4.get y = M1.get y := fun y hy h h' => by rw [b4.2 y (by omega) h, b3.2 y hy h']
  have but : Mem.But (fun y => y = hd ∨ y ∈ fpOf cv.1) M M4 := ⟨by omega, fun y hy hs => by rw [bb y (by omega) (fun e => hs (.inl e)) (fun e => hs (.inr e)), u1.2 y hy]⟩
  have I4 : GS false KI M0 M4 R hs cur gs ds := H.I.oth but (fun y hy _ => by
    rcases hy with rfl | hy
    · exact ⟨H.hM, by rw [H.rh]; exact nofun⟩
    · exact ⟨(hl y hy).2.2, by rw [(hl y hy).2.1]; exact nofun⟩) rl
  have keep : ∀ k, k ≠ 1 → k ≠ 2 → ∀ o, o < M.n → role o = .other k → M4.get o = M.get o := fun k h1 h2 o ho hr => by
    rw [bb o (by omega) (fun e => by rw [e, H.rh] at hr; cases hr; exact h1 rfl) (fun e => by rw [(hl o e).2.1] at hr; cases hr; exact h2 rfl), u1.2 o ho]
  have F : Fo role R M M4 := ⟨but.1, fun y hy ⟨k, hk, h1, h2⟩ => keep k h1 h2 y hy hk, rl⟩
  have hwl : ∀ o ∈ fpS w, o < M1.n := bytesAt_lt (show M1.bytesAt w = some d.B from ow.ints)
  have bw4 : M4.bytesAt w = some d.B := by
    rw [bytesAt_same (fun o ho => bb o (hwl o ho) (fun e => by have := fw o ho; omega) (fun e => by have := fw o ho; have := (hl o e).1; omega))]
    exact ow.ints
  refine ⟨M4, hE.trans hE1, R, cur, gs, ds, ⟨I4, H.s0, (rl hd hlt).trans H.rh, H.hM, ⟨tv, fv, (some (M1.n + 1, 0), cv.2.1 + 1, .unk 0), vs ++ [((x : Int), w)], g4, t4.fo F (by decide) (by decide), f4.fo F, tl3.same (fun o ho => ?_), fun o ho => ?_, ?_⟩, H.okT, H.okS, by simp only [List.length_append, List.length_singleton]; omega⟩, Sw.refl hc hd' hN, F⟩
  · simp only [fpOf, List.mem_singleton] at ho
    subst ho
    exact b4.2 _ (by omega) (by omega)
  · simp only [fpOf, List.mem_singleton] at ho
    subst ho
    exact ⟨by omega, r2 _ (by omega), by have := H.I.up.1; omega⟩
  · intro M5 h5 hg5
    have c5 : Cps M5 vs cl := c3 M5 (by omega) (fun o ho hr => by
      rw [hg5 o (by omega) ((rl o ho).trans hr), keep 3 (by decide) (by decide) o ho hr])
    exact c5.snoc (by
      rw [bytesAt_same (fun o ho => hg5 o (by have := hwl o ho; omega) (r3 o (fw o ho) (hwl o ho)))]
      exact bw4)
theorem lookT_of {T : List Pr} (hT : chk T = 0) {k v : Int} {b : Bool} (h : IsLk T k v b) : v = lookT T k := by
  obtain ⟨_, hI⟩ := chk_zero hT
  have h2 : ∃ b', IsLk T k (lookT T k) b' := by
    unfold lookT
    cases hf : T.find? (fun p => p.1 == k) with
    | none =>
      refine ⟨false, .inr ⟨rfl, rfl, fun p hp e => ?_⟩⟩
      have := List.find?_eq_none.1 hf p hp
      simp [e] at this
    | some p =>
      have h1 := List.find?_some hf
      have h2 := List.mem_of_find?_eq_some hf
      have : p.1 = k := by simpa using h1
      subst this
      exact ⟨true, .inl ⟨rfl, h2⟩⟩
  obtain ⟨b', h2⟩ := h2
  exact (h.uniq hI h2).1
theorem look_C (H : Hd M0 M role hs cur gs ds hd s tabs scr cl to) {x : Nat} (hx : x < tabs.length) (k : Int) : ∃ (tv v : SlV) (p : Nat × Nat) (b : Bool), M.ldL hd 1 = some tv ∧ tv.2.1 = tabs.length ∧ slPtr tv.1 tv.2.2 = some p ∧ M.ldL p.1 (p.2 + x * 1) = some v ∧ C 71 [.sl v.1 v.2.1 v.2.2, .int .u64 k] M = some (.tup [.int .u64 (lookT (tabs.getD x []) k), .bool b], M) := by
  obtain ⟨tv, fv, cv, vs, gh, t4, f4, tl, hl, c3⟩ := H.obj
  obtain ⟨tvs, h1, h2, h3⟩ := t4.now
  have hl1 := h1.2
  obtain ⟨p, hp, hv⟩ := h1.get encS1 (by omega) (i := x) (by omega)
  have hT := h3 x (tvs[x]'(by omega)) (tabs[x]'hx) (List.getElem?_eq_getElem (by omega)) (List.getElem?_eq_getElem hx)
  obtain ⟨v, b, k1, _, k2⟩ := Find_C hT k
  have hz := H.okT.2 _ (List.getElem_mem hx)
  have hlk := lookT_of hz (k2 hz)
  rw [hlk] at k1
  refine ⟨tv, tvs[x]'(by omega), p, b, by rw [ldL_at gh]; rfl, by omega, hp, ?_, ?_⟩
  · have := hv 0 (by omega)
    rw [Nat.add_zero] at this
    unfold Mem.ldL
    rw [this]; rfl
  · rw [List.getD_eq_getElem?_getD, List.getElem?_eq_getElem hx, Option.getD_some]; exact k1
theorem DS.deedB {a : Option (Nat × Nat)} {l : Nat} {c : Cap} {L : List Deed} (h : DS M role a l c L) {o : Nat} (ho : o < M.n → role o ≠ .other 4) : DeedB PSv M o a l c L := ⟨h.len, fun i hi => by
  obtain ⟨p, v, h1, h2⟩ := h.at_ i hi
  exact ⟨p, v, h1, fun M2 hb => h2 M2 hb.1 (fun o' h3 h4 => hb.2 o' h3 (fun e => ho (by omega) (by rw [← e]; exact h4)))⟩⟩
theorem Lend_adv {a1 : Option (Nat × Nat)} {l1 : Nat} {c1 : Cap} {L : List Deed} (H : GS false KI M0 M role hs cur gs ds) (hi : hs[i]? = some h) (hc : cur[i]? = some (some g)) (hd : ds[g]? = some d) {at_ n : Nat} {arg : Int} (hle : at_ + n ≤ d.B.length)
    (hO : DS M role a1 l1 c1 L) (hok : ∀ d ∈ L, DeedOk d) (hl : L.length ≤ 1048576) (hb : ∀ d ∈ L, d.2.2.length ≤ 1048576) :
    ∃ M' role' gs', C 72 [.ptr (some (h, 0)), .agg [.int .i64 (at_ : Int), .int .i64 (n : Int)], .ifc (some 116) (.agg [.sl a1 l1 c1]), .int .u64 arg] M = some (.tup [.int .u64 (L.foldl ScS.deed ⟨(d.B.drop at_).take n, [], false, 0, arg⟩).arg, .int .i64 0], M') ∧
      GS false KI M0 M' role' hs (oC cur ds.length i g) gs' ((oD cur ds g d).set (oG cur ds.length g) ⟨d.B.take at_ ++ ((L.foldl ScS.deed ⟨(d.B.drop at_).take n, [], false, 0, arg⟩).shown ++ d.B.drop (at_ + n)), (oE cur g d).a, (oE cur g d).t, (oE cur g d).mv⟩) ∧ Fj false role role' M M' := by
  have hsz := H.sz hi hc hd
  obtain ⟨M3, role3, gs3, x3, o, a, P, Q, H3, F3, hx3, ho, ha, hg, hcall, hpost⟩ := Lend_in H hi hc hd (t := 116) (f := 134) (v := .agg [.sl a1 l1 c1]) (at_ := at_) (n := n) (arg := arg) hle rfl
  obtain ⟨d3, hd3⟩ := H3.dat hx3
  obtain ⟨_, p3, _, _, rf, _, _, n3⟩ := H3.grp _ _ _ hx3 hd3
  have ro := rf o (by rw [ho]; simp)
  have no := n3 o (by rw [ho]; simp)
  have hol := Mem.get_lt hg
  have hO3 : DS M3 role3 a1 l1 c1 L := hO.fo F3.fo
  have hxs : ((d.B.drop at_).take n).length = n := by simp; omega
  have hfs := fold_shown L ⟨(d.B.drop at_).take n, [], false, 0, arg⟩ (Nat.zero_le _)
  have hfs' : (L.foldl ScS.deed ⟨(d.B.drop at_).take n, [], false, 0, arg⟩).shown.length = n := by rw [hfs]; exact hxs
  obtain ⟨M4, r1, r2, hg4⟩ : ∃ M4, C 134 [.agg [.sl a1 l1 c1], .sl a n (.known n), .int .u64 arg] M3 = some (.int .u64 (L.foldl ScS.deed ⟨(d.B.drop at_).take n, [], false, 0, arg⟩).arg, M4) ∧ Mem.But (· = o) M3 M4 ∧ M4.get o = some ⟨(P ++ ((L.foldl ScS.deed ⟨(d.B.drop at_).take n, [], false, 0, arg⟩).shown ++ Q)).map (.int .u8), .fixed⟩ := by
    by_cases h0 : 0 < n
    · obtain ⟨M4, r1, r2, r3⟩ := Adv_C (M := M3) (o := o) (P := P) (Q := Q) (ks := .fixed) (a := a) (n := n) (xs := (d.B.drop at_).take n) (arg := arg) (hO3.deedB (fun _ e => by rw [ro] at e; cases e)) hok hl hb hxs (by omega) rfl (by omega) (fun h0 => ⟨ha h0, hg⟩)
      exact ⟨M4, r1, r2, r3 h0⟩
    · obtain ⟨M4, r1, r2, _⟩ := Adv_C (M := M3) (o := M3.n + 1) (P := P) (Q := Q) (ks := .fixed) (a := a) (n := n) (xs := (d.B.drop at_).take n) (arg := arg) (hO3.deedB (fun h => by omega)) hok hl hb hxs (by omega) rfl (by omega) (fun h => absurd h h0)
      have e1 : (L.foldl ScS.deed ⟨(d.B.drop at_).take n, [], false, 0, arg⟩).shown = [] := List.length_eq_zero_iff.1 (by omega)
      have e2 : (d.B.drop at_).take n = [] := List.length_eq_zero_iff.1 (by omega)
      refine ⟨M4, r1, ⟨r2.1, fun y hy _ => r2.2 y hy (by omega)⟩, ?_⟩
      rw [r2.2 o hol (by omega), hg, e1, e2]
  have hup : M0.Upto M4 := ⟨by have := H3.up.1; have := r2.1; omega, fun y hy => by rw [r2.2 y (by have := H3.up.1; omega) (by have := H3.up.1; omega), H3.up.2 y hy]⟩
  have H4 := hpost M4 _ hfs' hup r2.1 (fun y hy _ hne => r2.2 y hy hne) hg4
  exact ⟨M4, _, _, hcall _ M4 r1, H4, F3.trans ⟨r2.1, fun y hy hs => r2.2 y hy (fun e => by rw [e, ro] at hs; exact hs rfl), fun y hy => extR_lt hy⟩⟩
theorem help9_C (H : Hd M0 M role hs cur gs ds hd s tabs scr cl to) (hc : cur[0]? = some (some g)) (hd' : ds[g]? = some d) (hN : d.mv ≤ N) {k x y z : Nat} (hk : k < scr.length) (hin : inW d.B x y = true) :
    ∃ M', p47_5 C prog.meth (some (hd, 0)) (x : Int) (y : Int) (z : Int) (k : Int) M = some (.int .u64 (runA scr ⟨d.B, cl, to⟩ k x y z).arg, M') ∧
      Out M0 M role hs cur ds hd s tabs scr N ⟨d.B.take x ++ ((runA scr ⟨d.B, cl, to⟩ k x y z).shown ++ d.B.drop (x + y)), cl, to⟩ M' := by
  have hE := p47_5_eq C prog.meth (some (hd, 0)) (x : Int) (y : Int) (z : Int) (k : Int) M
  have hB := H.I.sz H.s0 hc hd'
  obtain ⟨i1, i2⟩ := inW_iff.1 hin
  obtain ⟨tv, fv, cv, vs, gh, t4, f4, tl, hl, c3⟩ := H.obj
  obtain ⟨p, dv, hp, hld, hD⟩ := f4.at_ k hk
  have fl := f4.len
  have k0 : (0 : Int) ≤ (k : Int) := by omega
  have k1 : Nat.blt k fv.2.1 = true := Mem.blt_iff.2 (by omega)
  have wx : IntKind.wrap .i64 (x : Int) = (x : Int) := wrap_i64 (by omega) (by omega)
  have wy : IntKind.wrap .i64 (y : Int) = (y : Int) := wrap_i64 (by omega) (by omega)
  obtain ⟨hL, hok⟩ := H.okS.2 _ (List.getElem_mem hk)
  obtain ⟨M1, role1, gs1, c1, I1, F1⟩ := Lend_adv H.I H.s0 hc hd' (at_ := x) (n := y) (arg := (z : Int)) (by omega) hD (fun d hd => (hok d hd).1) hL (fun d hd => (hok d hd).2)
  simp only [int?_int, rvs, Int.reduceBEq, Int.reduceBNe, Int.cast_ofNat_Int, Nat.zero_add, ldP_at gh, ldL_at gh, k0, k1, Int.toNat_natCast, hp, hld.now, wx, wy] at hE
  rw [c1, Option.bind_some] at hE
  simp only [int?_int, rvs, Int.reduceBEq, Int.reduceBNe, Int.cast_ofNat_Int] at hE
  have er : runA scr ⟨d.B, cl, to⟩ k x y z = (scr[k]).foldl ScS.deed ⟨(d.B.drop x).take y, [], false, 0, (z : Int)⟩ := by
    unfold runA
    rw [List.getD_eq_getElem?_getD, List.getElem?_eq_getElem hk, Option.getD_some]
  rw [er]
  exact ⟨M1, hE, Out.fj H (e := ⟨_, (oE cur g d).a, (oE cur g d).t, (oE cur g d).mv⟩) I1 F1 (H.I.sw hc hd' _ (oE_mv hN))⟩
end
end Go.Proofs.Ytidofnpfeibbfaa.M
set_option linter.unusedVariables false
set_option linter.unusedSimpArgs false
set_option linter.unnecessarySimpa false
set_option maxRecDepth 100000
namespace Go.Proofs.Ytidofnpfeibbfaa.M
open Go.Abs Go.RowKit
theorem hpR_cases {i : Int} (h : hpR i = true) : i = 1 ∨ i = 2 ∨ i = 3 ∨ i = 4 ∨ i = 5 ∨ i = 6 ∨ i = 7 ∨ i = 8 ∨ (16 ≤ i ∧ i ≤ 23) := by
  unfold hpR wi at h
  simp only [Bool.cond_eq_true_distrib, Bool.cond_eq_ite, Bool.and_eq_true, decide_eq_true_eq] at h
  simp at h
  omega
section
variable {M0 M M' : Mem} {role role' : Nat → Rj} {hs : List Nat} {cur cur' : List (Option Nat)} {gs gs' : List Gp} {ds ds' : List Dt} {h i g N : Nat} {d : Dt} {hd s : Nat} {tabs : List (List Pr)} {scr : List (List Deed)} {cl : List (Int × List Int)} {to : Int}
theorem Out.mono {σ : HSt} {N' : Nat} (h : Out M0 M role hs cur ds hd s tabs scr N σ M') (hn : N ≤ N') : Out M0 M role hs cur ds hd s tabs scr N' σ M' := by
  obtain ⟨r, c, g, d, h1, h2, h3⟩ := h
  obtain ⟨g1, d1, e1, e2, e3, e4⟩ := h2.me
  exact ⟨r, c, g, d, h1, ⟨h2.len, ⟨g1, d1, e1, e2, e3, by omega⟩, h2.oth⟩, h3⟩
theorem Out.after {σ : HSt} {M1 : Mem} {role1 : Nat → Rj} (F : Fo role role1 M M1) (h : Out M0 M1 role1 hs cur ds hd s tabs scr N σ M') : Out M0 M role hs cur ds hd s tabs scr N σ M' := by
  obtain ⟨r, c, g, d, h1, h2, h3⟩ := h
  exact ⟨r, c, g, d, h1, h2, F.trans h3⟩
theorem help_C (H : Hd M0 M role hs cur gs ds hd s tabs scr cl to) (hc : cur[0]? = some (some g)) (hd' : ds[g]? = some d) (hN : d.mv ≤ N) (hN2 : N < 2 ^ 62) (hw : wfB d.B) {id : Int} {x y z : Nat} (hx : x < 2 ^ 64) (hy : y < 2 ^ 64) (hp : hpR id = true) (ht : id = 8 → x < tabs.length) :
    ∃ M', C 47 [.ptr (some (hd, 0)), .int .i32 id, .int .u64 (x : Int), .int .u64 (y : Int), .int .u64 (z : Int)] M = some (.int .u64 (helpA tabs scr ⟨d.B, cl, to⟩ id x y z).1, M') ∧ Out M0 M role hs cur ds hd s tabs scr (N + 1) (helpA tabs scr ⟨d.B, cl, to⟩ id x y z).2 M' := by
  obtain ⟨tv, fv, cv, vs, gh, t4, f4, tl, hl, c3⟩ := H.obj
  rcases hpR_cases hp with rfl | rfl | rfl | rfl | rfl | rfl | rfl | rfl | hf
  · exact ⟨M, help1_C H hc hd' hx hy, Out.same H hc hd' (by omega)⟩
  · obtain ⟨M', k1, k2⟩ := help2_C H hc hd' hN (z := z) hx hy
    have e : helpA tabs scr ⟨d.B, cl, to⟩ 2 x y z = (if inW d.B x y ∧ askE d.B.length x y = 0 then (1, ⟨storeB d.B x y z, cl, to⟩) else (0, ⟨d.B, cl, to⟩)) := rfl
    rw [e]
    by_cases h : inW d.B x y ∧ askE d.B.length x y = 0
    · rw [if_pos h] at k1 k2 ⊢; exact ⟨M', k1, k2.mono (by omega)⟩
    · rw [if_neg h] at k1 k2 ⊢; exact ⟨M', k1, k2.mono (by omega)⟩
  · have hh := p47_0_eq C prog.meth (some (hd, 0)) 3 (x : Int) (y : Int) (z : Int) M
    have hh2 := p47_2_eq C prog.meth (some (hd, 0)) 3 (x : Int) (y : Int) (z : Int) 3 M
    have hh3 := p47_3_eq C prog.meth (some (hd, 0)) 3 (x : Int) (y : Int) (z : Int) 3 true M
    obtain ⟨M', k1, k2⟩ := move_C H hc hd' hN hN2 (movI x) true
    have k1 : C 69 [.ptr (some (hd, 0)), .int .i64 (IntKind.wrap .i64 (x : Int)), .bool true] M = _ := k1
    simp only [int?_int, rvs, Int.reduceBEq, Int.reduceBNe, Int.cast_ofNat_Int] at hh hh2
    simp only [int?_int, rvs, Int.reduceBEq, Int.reduceBNe, Int.cast_ofNat_Int] at hh3
    rw [k1, Option.bind_some] at hh3
    simp only [int?_int, rvs, Int.reduceBEq, Int.reduceBNe, Int.cast_ofNat_Int] at hh3
    have hC := c47 (hh.trans (hh2.trans hh3))
    have e : helpA tabs scr ⟨d.B, cl, to⟩ 3 x y z = (if mayE d.B.length (movI x) = 0 then (1, ⟨headB d.B (movI x), cl, to⟩) else (0, ⟨d.B, cl, to⟩)) := rfl
    rw [e]
    by_cases h : mayE d.B.length (movI x) = 0
    · rw [if_pos h] at hC k2 ⊢; exact ⟨M', hC, k2⟩
    · rw [if_neg h] at hC k2 ⊢; exact ⟨M', hC, k2⟩
  · have hh := p47_0_eq C prog.meth (some (hd, 0)) 4 (x : Int) (y : Int) (z : Int) M
    have hh2 := p47_2_eq C prog.meth (some (hd, 0)) 4 (x : Int) (y : Int) (z : Int) 4 M
    have hh3 := p47_3_eq C prog.meth (some (hd, 0)) 4 (x : Int) (y : Int) (z : Int) 4 true M
    obtain ⟨M', k1, k2⟩ := move_C H hc hd' hN hN2 (movI x) false
    have k1 : C 69 [.ptr (some (hd, 0)), .int .i64 (IntKind.wrap .i64 (x : Int)), .bool false] M = _ := k1
    simp only [int?_int, rvs, Int.reduceBEq, Int.reduceBNe, Int.cast_ofNat_Int] at hh hh2
    simp only [int?_int, rvs, Int.reduceBEq, Int.reduceBNe, Int.cast_ofNat_Int] at hh3
    rw [k1, Option.bind_some] at hh3
    simp only [int?_int, rvs, Int.reduceBEq, Int.reduceBNe, Int.cast_ofNat_Int] at hh3
    have hC := c47 (hh.trans (hh2.trans hh3))
    have e : helpA tabs scr ⟨d.B, cl, to⟩ 4 x y z = (if mayE d.B.length (movI x) = 0 then (1, ⟨tailB d.B (movI x), cl, to⟩) else (0, ⟨d.B, cl, to⟩)) := rfl
    rw [e]
    by_cases h : mayE d.B.length (movI x) = 0
    · rw [if_pos h] at hC k2 ⊢; exact ⟨M', hC, k2⟩
    · rw [if_neg h] at hC k2 ⊢; exact ⟨M', hC, k2⟩
  · have hh := p47_0_eq C prog.meth (some (hd, 0)) 5 (x : Int) (y : Int) (z : Int) M
    have hh2 := p47_2_eq C prog.meth (some (hd, 0)) 5 (x : Int) (y : Int) (z : Int) 5 M
    have hh3 := p47_3_eq C prog.meth (some (hd, 0)) 5 (x : Int) (y : Int) (z : Int) 5 false M
    have wz : IntKind.wrap .u16 (z : Int) = ((z % 65536 : Nat) : Int) := by rw [wu16]; omega
    obtain ⟨M', k1, k2⟩ := fixH_C H hc hd' hN hw (z := z) hx hy
    simp only [int?_int, rvs, Int.reduceBEq, Int.reduceBNe, Int.cast_ofNat_Int] at hh hh2
    simp only [int?_int, rvs, Int.reduceBEq, Int.reduceBNe, Int.cast_ofNat_Int, wz] at hh3
    rw [k1, Option.bind_some] at hh3
    simp only [int?_int, rvs, Int.reduceBEq, Int.reduceBNe, Int.cast_ofNat_Int] at hh3
    have hC := c47 (hh.trans (hh2.trans hh3))
    have e : helpA tabs scr ⟨d.B, cl, to⟩ 5 x y z = (if mayF d.B.length x y then (1, ⟨fixB d.B x y z (updN (wordB d.B x) (wordB d.B y) (z % 65536)), cl, to⟩) else (0, ⟨d.B, cl, to⟩)) := rfl
    rw [e]
    by_cases h : mayF d.B.length x y = true
    · rw [if_pos h] at hC k2 ⊢; exact ⟨M', hC, k2.mono (by omega)⟩
    · rw [if_neg h] at hC k2 ⊢; exact ⟨M', hC, k2.mono (by omega)⟩
  · have hh := p47_0_eq C prog.meth (some (hd, 0)) 6 (x : Int) (y : Int) (z : Int) M
    have hh2 := p47_2_eq C prog.meth (some (hd, 0)) 6 (x : Int) (y : Int) (z : Int) 6 M
    have hh3 := p47_3_eq C prog.meth (some (hd, 0)) 6 (x : Int) (y : Int) (z : Int) 6 false M
    obtain ⟨M', k1, k2⟩ := help6_C H hc hd' hN x
    simp only [int?_int, rvs, Int.reduceBEq, Int.reduceBNe, Int.cast_ofNat_Int] at hh hh2
    simp only [int?_int, rvs, Int.reduceBEq, Int.reduceBNe, Int.cast_ofNat_Int] at hh3
    have hC := c47 (hh.trans (hh2.trans (hh3.trans k1)))
    have e : helpA tabs scr ⟨d.B, cl, to⟩ 6 x y z = (if x < 8 ∧ cl.length < 8 then (1, ⟨d.B, cl ++ [((x : Int), d.B)], to⟩) else (0, ⟨d.B, cl, to⟩)) := rfl
    rw [e]
    by_cases h : x < 8 ∧ cl.length < 8
    · rw [if_pos h] at hC k2 ⊢; exact ⟨M', hC, k2.mono (by omega)⟩
    · rw [if_neg h] at hC k2 ⊢; exact ⟨M', hC, k2.mono (by omega)⟩
  · have hh := p47_0_eq C prog.meth (some (hd, 0)) 7 (x : Int) (y : Int) (z : Int) M
    have hh2 := p47_2_eq C prog.meth (some (hd, 0)) 7 (x : Int) (y : Int) (z : Int) 7 M
    have hh3 := p47_3_eq C prog.meth (some (hd, 0)) 7 (x : Int) (y : Int) (z : Int) 7 false M
    simp only [int?_int, rvs, Int.reduceBEq, Int.reduceBNe, Int.cast_ofNat_Int] at hh hh2
    have e : helpA tabs scr ⟨d.B, cl, to⟩ 7 x y z = (if x < 8 then (1, ⟨d.B, cl, (x : Int)⟩) else (0, ⟨d.B, cl, to⟩)) := rfl
    rw [e]
    by_cases h : x < 8
    · have q : ¬ ((x : Int) ≥ 8) := by omega
      have wx : IntKind.wrap .i64 (x : Int) = (x : Int) := wrap_i64 (by omega) (by omega)
      obtain ⟨M', k1, k2⟩ := way_C H hc hd' hN (x : Int)
      simp only [int?_int, rvs, Int.reduceBEq, Int.reduceBNe, Int.cast_ofNat_Int, q, Nat.zero_add, wx, k1] at hh3
      rw [if_pos h]
      exact ⟨M', c47 (hh.trans (hh2.trans hh3)), k2.mono (by omega)⟩
    · have q : ((x : Int) ≥ 8) := by omega
      simp only [int?_int, rvs, Int.reduceBEq, Int.reduceBNe, Int.cast_ofNat_Int, q] at hh3
      rw [if_neg h]
      exact ⟨M, c47 (hh.trans (hh2.trans hh3)), Out.same H hc hd' (by omega)⟩
  · have hh := p47_0_eq C prog.meth (some (hd, 0)) 8 (x : Int) (y : Int) (z : Int) M
    have hh2 := p47_2_eq C prog.meth (some (hd, 0)) 8 (x : Int) (y : Int) (z : Int) 8 M
    have hh3 := p47_3_eq C prog.meth (some (hd, 0)) 8 (x : Int) (y : Int) (z : Int) 8 false M
    obtain ⟨tv', v, p, b, e1, e2, e3, e4, e5⟩ := look_C H (ht rfl) (y : Int)
    have hlt := ht rfl
    have x0 : (0 : Int) ≤ (x : Int) := by omega
    have x1 : Nat.blt x tv'.2.1 = true := Mem.blt_iff.2 (by omega)
    simp only [int?_int, rvs, Int.reduceBEq, Int.reduceBNe, Int.cast_ofNat_Int] at hh hh2
    simp only [int?_int, rvs, Int.reduceBEq, Int.reduceBNe, Int.cast_ofNat_Int, Nat.zero_add, e1, x0, x1, Int.toNat_natCast, e3, e4, e5] at hh3
    exact ⟨M, c47 (hh.trans (hh2.trans hh3)), Out.same H hc hd' (by omega)⟩
  · obtain ⟨k, hk⟩ : ∃ k : Nat, id = 16 + (k : Int) := ⟨(id - 16).toNat, by omega⟩
    have hk8 : k < 8 := by omega
    have hh := p47_0_eq C prog.meth (some (hd, 0)) id (x : Int) (y : Int) (z : Int) M
    have hh2 := p47_2_eq C prog.meth (some (hd, 0)) id (x : Int) (y : Int) (z : Int) id M
    have hh3 := p47_3_eq C prog.meth (some (hd, 0)) id (x : Int) (y : Int) (z : Int) id false M
    have z1 : (id == 1) = false := by simp; omega
    have z2 : (id == 2) = false := by simp; omega
    have z3 : (id == 3) = false := by simp; omega
    have z4 : (id == 4) = false := by simp; omega
    have z5 : (id == 5) = false := by simp; omega
    have z6 : (id == 6) = false := by simp; omega
    have z7 : (id == 7) = false := by simp; omega
    have z8 : (id == 8) = false := by simp; omega
    have w : IntKind.wrap .i64 (IntKind.wrap .i32 (id - 16)) = (k : Int) := by
      have : IntKind.wrap .i32 (id - 16) = (k : Int) := by rw [wi32]; omega
      rw [this]; exact wrap_i64 (by omega) (by omega)
    simp only [z1, z2, cond_false] at hh
    simp only [z3, z4, cond_false] at hh2
    have fl := f4.len
    have e : helpA tabs scr ⟨d.B, cl, to⟩ id x y z = (if k < scr.length ∧ inW d.B x y then ((runA scr ⟨d.B, cl, to⟩ k x y z).arg, ⟨d.B.take x ++ ((runA scr ⟨d.B, cl, to⟩ k x y z).shown ++ d.B.drop (x + y)), cl, to⟩) else (0, ⟨d.B, cl, to⟩)) := by
      unfold helpA
      rw [if_neg (by omega), if_neg (by omega), if_neg (by omega), if_neg (by omega), if_neg (by omega), if_neg (by omega), if_neg (by omega), if_neg (by omega), show (id - 16).toNat = k by omega]
    rw [e]
    by_cases h1 : k < scr.length
    rotate_left
    · have q : ((k : Int) ≥ (fv.2.1 : Int)) := by omega
      simp only [int?_int, rvs, Int.reduceBEq, Int.reduceBNe, Int.cast_ofNat_Int, z5, z6, z7, z8, w, Nat.zero_add, ldL_at gh, q] at hh3
      rw [if_neg (fun h => h1 h.1)]
      exact ⟨M, c47 (hh.trans (hh2.trans hh3)), Out.same H hc hd' (by omega)⟩
    have q : ¬ ((k : Int) ≥ (fv.2.1 : Int)) := by omega
    obtain ⟨p, dv, hp, hld, _⟩ := f4.at_ k h1
    have k0 : (0 : Int) ≤ (k : Int) := by omega
    have k1 : Nat.blt k fv.2.1 = true := Mem.blt_iff.2 (by omega)
    simp only [int?_int, rvs, Int.reduceBEq, Int.reduceBNe, Int.cast_ofNat_Int, z5, z6, z7, z8, w, Nat.zero_add, ldL_at gh, q, k0, k1, Int.toNat_natCast, hp, hld.now, within0_C H hc hd' hx hy] at hh3
    cases hin : inW d.B x y with
    | false =>
      simp only [hin, Bool.not_false, cond_true] at hh3
      rw [if_neg (by simp)]
      exact ⟨M, c47 (hh.trans (hh2.trans hh3)), Out.same H hc hd' (by omega)⟩
    | true =>
      simp only [hin, Bool.not_true, cond_false] at hh3
      obtain ⟨M', k2, k3⟩ := help9_C H hc hd' hN (z := z) h1 hin
      rw [if_pos ⟨h1, rfl⟩]
      exact ⟨M', c47 (hh.trans (hh2.trans (hh3.trans k2))), k3.mono (by omega)⟩
theorem Call_C (H : Hd M0 M role hs cur gs ds hd s tabs scr cl to) (hc : cur[0]? = some (some g)) (hd' : ds[g]? = some d) (hN : d.mv ≤ N) (hN2 : N < 2 ^ 62) (hw : wfB d.B) {id : Int} (hid : -2147483648 ≤ id ∧ id < 2147483648) {x y z : Nat} {q4 q5 : Int} (hx : x < 2 ^ 64) (hy : y < 2 ^ 64) :
    ∃ M', C 17 [.ptr (some (hd, 0)), .int .i32 id, .agg [.int .u64 (x : Int), .int .u64 (y : Int), .int .u64 (z : Int), .int .u64 q4, .int .u64 q5]] M = some (.tup [.int .u64 (callA tabs scr ⟨d.B, cl, to⟩ id x y z).1, .int .i64 (callA tabs scr ⟨d.B, cl, to⟩ id x y z).2.1], M') ∧
      Out M0 M role hs cur ds hd s tabs scr (N + 1) (callA tabs scr ⟨d.B, cl, to⟩ id x y z).2.2 M' := by
  have hE := p17_0_eq C prog.meth (some (hd, 0)) id (x : Int) (y : Int) (z : Int) q4 q5 M
  obtain ⟨M1, e1, g1, u1, n1⟩ := alloc_at M ⟨[.int .u64 (x : Int), .int .u64 (y : Int), .int .u64 (z : Int), .int .u64 q4, .int .u64 q5], .fixed⟩
  have H1 := H.upto 0 u1
  have F1 := (Fj.extK 0 role u1).fo
  obtain ⟨tv, fv, cv, vs, gh, t4, f4, tl, hl, c3⟩ := H1.obj
  obtain ⟨tvs, h1, h2, _⟩ := t4.now
  have hlt : tv.2.1 = tabs.length := by rw [← h1.2]; exact h2
  have hT4 := H.okT.1
  have hth := p46_0_eq C prog.meth (some (hd, 0)) M1
  simp only [int?_int, rvs, Int.reduceBEq, Int.reduceBNe, Int.cast_ofNat_Int, Nat.zero_add, ldP_at gh] at hth
  obtain ⟨_, ha⟩ := HArgs_C (i := id) hid
  have al := alive0_C H1.I H1.s0 hc hd'
  have l0 : M1.ldI .u64 M.n (0 + 0 * 1) = some (x : Int) := by rw [ldI_at g1]; rfl
  have l1 : M1.ldI .u64 M.n (0 + 1 * 1) = some (y : Int) := by rw [ldI_at g1]; rfl
  have l2 : M1.ldI .u64 M.n (0 + 2 * 1) = some (z : Int) := by rw [ldI_at g1]; rfl
  have l0' : M1.ldI .u64 M.n 0 = some (x : Int) := by rw [ldI_at g1]; rfl
  have same : Out M0 M role hs cur ds hd s tabs scr (N + 1) ⟨d.B, cl, to⟩ M1 := Out.after F1 (Out.same H1 hc hd' (by omega))
  unfold callA
  unfold tellA at ha
  cases hp : hpR id with
  | false =>
    rw [hp] at ha
    simp only [cond_false] at ha
    simp only [e1, c46 hth, int?_int, rvs, Int.reduceBEq, Int.reduceBNe, Int.cast_ofNat_Int, Nat.zero_add, ldP_at gh, al, bne_self_eq_false, ha] at hE
    rw [if_pos (.inl rfl)]
    exact ⟨M1, c17 hE, same⟩
  | true =>
    rw [hp] at ha
    simp only [cond_true] at ha
    simp only [e1, c46 hth, int?_int, rvs, Int.reduceBEq, Int.reduceBNe, Int.cast_ofNat_Int, Nat.zero_add, ldP_at gh, al, bne_self_eq_false, ha] at hE
    have rest : (id = 8 → x < tabs.length) → C 17 [.ptr (some (hd, 0)), .int .i32 id, .agg [.int .u64 (x : Int), .int .u64 (y : Int), .int .u64 (z : Int), .int .u64 q4, .int .u64 q5]] M = C 17 [.ptr (some (hd, 0)), .int .i32 id, .agg [.int .u64 (x : Int), .int .u64 (y : Int), .int .u64 (z : Int), .int .u64 q4, .int .u64 q5]] M →
        p17_0 C prog.meth (some (hd, 0)) id (x : Int) (y : Int) (z : Int) q4 q5 M = p17_1 C prog.meth (some (hd, 0)) id M.n M1 →
        ∃ M', C 17 [.ptr (some (hd, 0)), .int .i32 id, .agg [.int .u64 (x : Int), .int .u64 (y : Int), .int .u64 (z : Int), .int .u64 q4, .int .u64 q5]] M = some (.tup [.int .u64 (helpA tabs scr ⟨d.B, cl, to⟩ id x y z).1, .int .i64 0], M') ∧ Out M0 M role hs cur ds hd s tabs scr (N + 1) (helpA tabs scr ⟨d.B, cl, to⟩ id x y z).2 M' := fun ht _ hq => by
      have hE1 := p17_1_eq C prog.meth (some (hd, 0)) id M.n M1
      obtain ⟨M', k1, k2⟩ := help_C H1 hc hd' hN hN2 hw (z := z) hx hy hp ht
      simp only [l0, l1, l2, Option.bind_some] at hE1
      rw [k1, Option.bind_some] at hE1
      simp only [int?_int, rvs, Int.reduceBEq, Int.reduceBNe, Int.cast_ofNat_Int] at hE1
      exact ⟨M', c17 (hq.trans hE1), Out.after F1 k2⟩
    by_cases h8 : id = 8
    · have z8 : (id == 8) = true := by simp [h8]
      have wt : IntKind.wrap .u64 (tv.2.1 : Int) = (tv.2.1 : Int) := by rw [wu64]; omega
      simp only [z8, cond_true, l0', Nat.zero_mul, Option.bind_some, ldL_at gh, List.getElem?_cons_succ, List.getElem?_cons_zero, AVal.sl?, wt] at hE
      by_cases h9 : x < tabs.length
      · have q : ¬ ((x : Int) ≥ (tv.2.1 : Int)) := by omega
        simp only [q, decide_false, cond_false] at hE
        rw [if_neg (by rintro (h | h); cases h; omega)]
        exact rest (fun _ => h9) rfl hE
      · have q : ((x : Int) ≥ (tv.2.1 : Int)) := by omega
        simp only [q, decide_true, cond_true] at hE
        rw [if_pos (.inr ⟨h8, by omega⟩)]
        exact ⟨M1, c17 hE, same⟩
    · have z8 : (id == 8) = false := by simp [h8]
      simp only [z8, cond_false] at hE
      rw [if_neg (by rintro (h | h); cases h; exact h8 h.1)]
      exact rest (fun h => absurd h h8) rfl hE
end
end Go.Proofs.Ytidofnpfeibbfaa.M
