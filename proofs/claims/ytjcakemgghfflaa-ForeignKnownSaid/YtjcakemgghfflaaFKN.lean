import Derived.Test.YtjcakemgghfflaaFL
set_option linter.unusedVariables false
set_option linter.unusedSimpArgs false
set_option linter.unnecessarySimpa false
set_option maxRecDepth 100000
namespace Go.Proofs.Ytjcakemgghfflaa.M
open Go.Abs Go.RowKit
theorem works23k_C : ∃ M', C 9 [] Mem.empty = some (.bool true, M') := whole_says (n := 2000) (by kernel_rfl)
def kL : List (List Deed) := [[(2, 0, [9, 8]), (1, 0, []), (1, 1, [])], [(2, 1, [7, 7, 7, 7])], [(4, 0, [6]), (2, 0, [9]), (1, 0, []), (1, 3, [])], [(3, 1, []), (2, 0, [9]), (1, 1, []), (3, 9, []), (1, 0, [])], [(2, (-1), [9, 8]), (2, 4, [9])], [(4, 0, []), (2, 0, [9])], [(5, 0, [1]), (0, 0, [1])], [(4, 0, [6]), (3, 4, []), (1, 0, []), (4, 0, [5]), (3, 0, []), (1, 0, [])]]
def kAns : List Int := [27, 10, 25, 23, 10, 10, 10, 15]
def kSh : List (List Int) := [[9, 8, 4], [2, 7, 7], [2, 3, 4], [2, 9, 4], [8, 3, 4], [9, 3, 4], [2, 3, 4], [2, 3, 4]]
def kRun (L : List Deed) : ScS := L.foldl ScS.deed ⟨[2, 3, 4], [], false, 0, 10⟩
theorem kL_ok : ∀ L ∈ kL, L.length ≤ 1048576 ∧ ∀ d ∈ L, DeedOk d ∧ d.2.2.length ≤ 1048576 := by
  unfold kL DeedOk wfB
  decide +kernel
theorem kRun_is (i : Nat) (hi : i < 8) : ∃ L b sh, kL[i]? = some L ∧ kAns[i]? = some b ∧ kSh[i]? = some sh ∧ (kRun L).arg = b ∧ (kRun L).shown = sh ∧ sh.length = 3 := by
  have h : i = 0 ∨ i = 1 ∨ i = 2 ∨ i = 3 ∨ i = 4 ∨ i = 5 ∨ i = 6 ∨ i = 7 := by omega
  rcases h with rfl | rfl | rfl | rfl | rfl | rfl | rfl | rfl <;> exact ⟨_, _, _, rfl, rfl, rfl, by kernel_rfl, by kernel_rfl, rfl⟩
theorem bind_lazy {α β : Type} {a b : Option α} {f : α → Option β} (h : a = b) : a.bind f = b.bind f := by rw [h]
theorem cond_lazy {α : Type} {c c' : Bool} {a b : α} (h : c = c') : cond c a b = cond c' a b := by rw [h]
theorem deed_C (M : Mem) (k at_ : Int) (s : SlV) : ∃ M', C 20 [.int .u8 k, .int .i64 at_, .sl s.1 s.2.1 s.2.2] M = some (.agg [.int .u8 k, .int .i64 at_, .sl s.1 s.2.1 s.2.2], M') ∧ M.Upto M' := by
  have hE := p20_0_eq C prog.meth k at_ s.1 s.2.1 s.2.2 M
  obtain ⟨M1, e1, g1, u1, n1⟩ := alloc_at M ⟨[.int .u8 0, .int .i64 0, .sl none 0 (.known 0)], .fixed⟩
  obtain ⟨M2, s2, g2, n2, b2⟩ := st_at (i := 0) (vs := [.int .u8 k, .int .i64 at_, .sl s.1 s.2.1 s.2.2]) g1 (by simp)
  simp only [overL] at g2
  simp only [int?_int, rvs, Int.reduceBEq, Int.reduceBNe, Int.cast_ofNat_Int, e1, s2, ldI_at g2, ldL_at g2] at hE
  exact ⟨M2, c20 hE, ⟨by omega, fun o ho => by rw [b2.2 o (by omega) (by omega), u1.2 o ho]⟩⟩
section
variable {M0 M M' : Mem} {role role' : Nat → Rj} {hs : List Nat} {cur : List (Option Nat)} {gs : List Gp} {ds : List Dt} {h i g : Nat} {d : Dt}
theorem PS.zero (M : Mem) : PS M none 0 (.known 0) [] := ⟨rfl, .inl ⟨rfl, .inl rfl⟩⟩
def RowsD (M : Mem) : List RwD → List Deed → Prop
  | [], [] => True
  | r :: rs, d :: L => (r.1 = d.1 ∧ r.2.1 = d.2.1 ∧ PS M r.2.2.1 r.2.2.2.1 r.2.2.2.2 d.2.2) ∧ RowsD M rs L
  | _, _ => False
theorem RowsD.at : ∀ {rows : List RwD} {L : List Deed}, RowsD M rows L → rows.length = L.length ∧ ∀ i (h : i < L.length) (h' : i < rows.length), rows[i].1 = L[i].1 ∧ rows[i].2.1 = L[i].2.1 ∧ PS M rows[i].2.2.1 rows[i].2.2.2.1 rows[i].2.2.2.2 L[i].2.2
  | [], [], _ => ⟨rfl, fun i h => by simp at h⟩
  | r :: rs, d :: L, h => by
    obtain ⟨h1, h2⟩ := h
    obtain ⟨e, f⟩ := RowsD.at h2
    refine ⟨by simp [e], fun i hi hi' => ?_⟩
    cases i with
    | zero => exact h1
    | succ i => exact f i (by simpa using hi) (by simpa using hi')
  | [], _ :: _, h => h.elim
  | _ :: _, [], h => h.elim
theorem deeds_lit {o : Nat} {rows : List RwD} {L : List Deed} (hg : M.get o = some ⟨rows.flatMap encD, .fixed⟩) (hr : RowsD M rows L) : Deeds M (some (o, 0)) L.length (.known L.length) L := by
  obtain ⟨e, f⟩ := hr.at
  refine ⟨rfl, fun i hi => ?_⟩
  refine ⟨(o, 0), (rows[i]'(by omega)).2.2, rfl, fun M2 hu => ?_⟩
  have hs := Sl.whole (c := .known 0) encD3 (hu.get hg) (by simp) rfl
  obtain ⟨p, hp, hv⟩ := hs.get encD3 (by omega) (i := i) (by omega)
  obtain rfl : (o, 0) = p := Option.some.inj hp
  obtain ⟨f1, f2, f3⟩ := f i hi (by omega)
  have r0 := hv 0 (by omega)
  have r1 := hv 1 (by omega)
  have r2 := hv 2 (by omega)
  rw [Nat.add_zero] at r0
  rw [← f1, ← f2]
  refine ⟨ldI_ld.2 r0, ldI_ld.2 (by rw [Nat.add_assoc]; exact r1), ?_, f3.upto hu⟩
  unfold Mem.ldL
  rw [Nat.add_assoc, Nat.add_assoc]
  rw [r2]; rfl
theorem Deeds.up {a : Option (Nat × Nat)} {l : Nat} {c : Cap} {L : List Deed} (h : Deeds M a l c L) (hu : M.Upto M') : Deeds M' a l c L := ⟨h.len, fun i hi => by
  obtain ⟨p, v, h1, h2⟩ := h.at_ i hi
  exact ⟨p, v, h1, fun M2 hu2 => h2 M2 (hu.trans hu2)⟩⟩
theorem six_C (M : Mem) : ∃ (M' : Mem) (s : Nat) (role : Nat → Rj) (gs : List Gp), C 21 [] M = some (.tup [.ptr (some (s, 0)), .int .i64 0], M') ∧ GS false KI M M' role [s] [some 0] gs [⟨[0, 1, 2, 3, 4, 5], 64, 64, 0⟩] := by
  have hE := p21_0_eq C prog.meth M
  obtain ⟨M1, e1, g1, u1, n1⟩ := alloc_at M ⟨[.int .u8 0, .int .u8 1, .int .u8 2, .int .u8 3, .int .u8 4, .int .u8 5], .fixed⟩
  have hx : M1.ints .u8 (some (M.n, 0)) 6 (.known 6) = some [0, 1, 2, 3, 4, 5] := ints_whole (xs := [0, 1, 2, 3, 4, 5]) (k := .u8) g1 (by simp) rfl
  have G0 : GS false KI M M1 (fun _ => .other 0) [] [] [] [] := ⟨u1, rfl, by simp, by simp, rfl, by simp, by simp⟩
  obtain ⟨M2, s, x, role2, n2, u2, H2, F2⟩ := I_new G0 (by simp) hx (by omega)
  simp only [int?_int, rvs, Int.reduceBEq, Int.reduceBNe, Int.cast_ofNat_Int, e1, n2] at hE
  exact ⟨M2, s, role2, _, c21 hE, H2⟩
structure KD (M : Mem) (o1 o2 o3 : Nat) : Prop where
  all : ∀ i, i < 8 → ∃ (sv hv : SlV) (L : List Deed) (b : Int) (sh : List Int), M.ldL o1 i = some sv ∧ Deeds M sv.1 sv.2.1 sv.2.2 L ∧ kL[i]? = some L ∧ M.ldI .u64 o2 i = some b ∧ kAns[i]? = some b ∧ M.ldL o3 i = some hv ∧ kSh[i]? = some sh ∧ M.ints .u8 hv.1 hv.2.1 hv.2.2 = some sh
theorem ldLU {mo i : Nat} {x : SlV} (h : M.ldL mo i = some x) (hu : M.Upto M') : M'.ldL mo i = some x := by
  unfold Mem.ldL at *
  simp only [bind_some'] at h ⊢
  obtain ⟨v, h1, h2⟩ := h
  exact ⟨v, by rw [ld_same (hu.2 mo (ld_lt h1))]; exact h1, h2⟩
theorem ldIU {k : IntKind} {mo i : Nat} {x : Int} (h : M.ldI k mo i = some x) (hu : M.Upto M') : M'.ldI k mo i = some x := by
  have := ldI_ld.1 h
  exact ldI_ld.2 (by rw [ld_same (hu.2 mo (ld_lt this))]; exact this)
theorem KD.up {o1 o2 o3 : Nat} (h : KD M o1 o2 o3) (hu : M.Upto M') : KD M' o1 o2 o3 := ⟨fun i hi => by
  obtain ⟨sv, hv, L, b, sh, h1, h2, h3, h4, h5, h6, h7, h8⟩ := h.all i hi
  exact ⟨sv, hv, L, b, sh, ldLU h1 hu, h2.up hu, h3, ldIU h4 hu, h5, ldLU h6 hu, h7, ints_upto h8 hu⟩⟩
attribute [local congr] bind_lazy cond_lazy in
theorem fk_step {o1 o2 o3 : Nat} (K : KD M o1 o2 o3) {i : Nat} (hi : i < 8) : ∃ M', p6_3 C prog.meth (some (o1, 0)) 8 (.known 8) (some (o2, 0)) 8 (.known 8) (some (o3, 0)) 8 (.known 8) (i : Int) M = p6_3 C prog.meth (some (o1, 0)) 8 (.known 8) (some (o2, 0)) 8 (.known 8) (some (o3, 0)) 8 (.known 8) ((i + 1 : Nat) : Int) M' ∧ M.Upto M' := by
  have hE := p6_3_eq C prog.meth (some (o1, 0)) 8 (.known 8) (some (o2, 0)) 8 (.known 8) (some (o3, 0)) 8 (.known 8) (i : Int) M
  have q : ((i : Int) < 8) := by omega
  have k0 : (0 : Int) ≤ (i : Int) := by omega
  have k1 : Nat.blt i 8 = true := Mem.blt_iff.2 (by omega)
  have w1 : IntKind.wrap .i64 ((i : Int) + 1) = ((i + 1 : Nat) : Int) := by rw [wrap_i64 (by omega) (by omega)]; rfl
  obtain ⟨M1, s, role1, gs1, c1, H1⟩ := six_C M
  obtain ⟨sv, hv, L, b, sh, h1, h2, h3, h4, h5, h6, h7, h8⟩ := (K.up H1.up).all i hi
  obtain ⟨L', b', sh', r1, r2, r3, r4, r5, r6⟩ := kRun_is i hi
  rw [h3] at r1
  rw [h5] at r2
  rw [h7] at r3
  obtain rfl := Option.some.inj r1
  obtain rfl := Option.some.inj r2
  obtain rfl := Option.some.inj r3
  have hok := kL_ok L (List.mem_of_getElem? h3)
  obtain ⟨M2, a, l, c, rows, c2, u2, hO⟩ := Script_C h2 (fun d hd => (hok.2 d hd).1) (by have := hok.1; omega)
  have H2 := H1.ext u2
  obtain ⟨M3, role3, gs3, c3, H3, F3⟩ := Lend_script H2 (i := 0) (g := 0) rfl rfl rfl (at_ := 2) (n := 3) (arg := 10) (by simp) hO (fun y hy1 hy2 => extR_ge hy1) (fun d hd => (hok.2 d hd).1) hok.1 (fun d hd => (hok.2 d hd).2)
  have H3 : GS false KI M M3 role3 [s] [some 0] gs3 [⟨[0, 1] ++ ((kRun L).shown ++ [5]), 64, 64, 0⟩] := H3
  have c3 : C 12 [.ptr (some (s, 0)), .agg [.int .i64 2, .int .i64 3], .ifc (some 88) (.agg [.sl a l c]), .int .u64 10] M2 = some (.tup [.int .u64 (kRun L).arg, .int .i64 0], M3) := c3
  rw [r4] at c3
  rw [r5] at H3
  obtain ⟨M4, e4, g4, u4, n4⟩ := alloc_at M3 ⟨[.int .u8 2, .int .u8 3, .int .u8 4], .fixed⟩
  have i4 : M4.ints .u8 (some (M3.n, 0)) 3 (.known 3) = some [2, 3, 4] := ints_whole (xs := [2, 3, 4]) (k := .u8) g4 (by simp) rfl
  have K4 := K.up (H3.up.trans u4)
  obtain ⟨sv4, hv4, L4, b4, sh4, f1, f2, f3, f4, f5, f6, f7, f8⟩ := K4.all i hi
  rw [h3] at f3
  rw [h5] at f5
  rw [h7] at f7
  obtain rfl := Option.some.inj f3
  obtain rfl := Option.some.inj f5
  obtain rfl := Option.some.inj f7
  obtain ⟨M5, v, c5, u5, o5, _⟩ := Shown_C (arg := 10) (fun M2 o hu ho => f2.below hu ho) (fun d hd => (hok.2 d hd).1) hok.1 (fun d hd => (hok.2 d hd).2) i4 (by omega)
  have c5 : C 17 [.sl (some (M3.n, 0)) 3 (.known 3), .int .u64 10, .sl sv4.1 sv4.2.1 sv4.2.2] M4 = some (.tup [.sl v.1 v.2.1 (.known v.2.1), .int .u64 (kRun L).arg], M5) := c5
  have o5 : Own1 M5 v (kRun L).shown := o5
  rw [r4] at c5
  rw [r5] at o5
  obtain ⟨M6, e6, g6, u6, n6⟩ := alloc_at M5 ⟨[.int .u8 0, .int .u8 1], .fixed⟩
  have f6' := ldLU f6 (u5.trans u6)
  have f8' := ints_upto f8 (u5.trans u6)
  have hvl := ints_length f8
  have i6 : M6.raws 1 (some (M5.n, 0)) 2 (.known 2) = some ([0, 1].map (.int .u8)) := ints_raws.1 (ints_whole (xs := [0, 1]) (k := .u8) g6 (by simp) rfl)
  obtain ⟨M7, e7, g7, u7, n7⟩ := alloc_at M6 ⟨([0, 1] ++ sh).map (.int .u8), .grow 1⟩
  have ap1 : ∀ {β : Type} (K : Option (Nat × Nat) → Nat → Cap → Mem → Option β), appK false 1 1 M6 (some (M5.n, 0)) 2 (.known 2) (.sl hv4.1 hv4.2.1 hv4.2.2) K = K (some (M6.n, 0)) (2 + hv4.2.1) (.unk 0) M7 := fun K => by
    rw [appK_more i6 (ints_raws.1 f8') (by omega) (by omega), ← List.map_append, e7]
  have o7 : OwnK .u8 M7 (some (M6.n, 0), 2 + hv4.2.1, .unk 0) ([0, 1] ++ sh) := ⟨by simp only [List.length_append, List.length_cons, List.length_nil]; omega, fun _ => ⟨M6.n, rfl, rfl, g7⟩⟩
  obtain ⟨M9, ap2, o9, n9, b9⟩ := o7.push (bytes := 1) 5 (fun h => by simp only at h; omega) (by simp only; omega)
  have fp7 : ∀ o ∈ fpS ((some (M6.n, 0), 2 + hv4.2.1, .unk 0) : SlV), o = M6.n := fun o ho => by
    rw [fpS_own rfl (by simp only; omega)] at ho
    simpa using ho
  have n5' := u5.1
  have u39 : M3.Upto M9 := ⟨by omega, fun o ho => by rw [b9.2 o (by omega) (fun e => by have := fp7 o e; omega), u7.2 o (by omega), u6.2 o (by omega), u5.2 o (by omega), u4.2 o ho]⟩
  have K9 := K.up (H3.up.trans u39)
  obtain ⟨sv9, hv9, L9, b9', sh9, x1, x2, x3, x4, x5, x6, x7, x8⟩ := K9.all i hi
  rw [h5] at x5
  rw [h7] at x7
  obtain rfl := Option.some.inj x5
  obtain rfl := Option.some.inj x7
  have o59 : Own1 M9 v sh := o5.same (fun o ho => by
    have hl := o5.lt o ho
    rw [b9.2 o (by omega) (fun e => by have := fp7 o e; omega), u7.2 o (by omega), u6.2 o hl])
  have hvl' := o5.1
  have q1 := EqBytes_C o59.ints x8 (by omega)
  rw [decide_eq_true rfl] at q1
  have q1 : C 15 [.sl v.1 v.2.1 (.known v.2.1), .sl hv9.1 hv9.2.1 hv9.2.2] M9 = some (.bool true, M9) := by
    have i59 : M9.ints .u8 v.1 v.2.1 (.known v.2.1) = some sh := by
      obtain ⟨o, e1, e2, e3⟩ := o59.2 (by omega)
      rw [e1]
      have := ints_whole (c := .known v.2.1) e3 (by simp) rfl
      rw [show v.2.1 = sh.length by omega] at this ⊢
      exact this
    have := EqBytes_C i59 x8 (by omega)
    rw [decide_eq_true rfl] at this
    exact this
  have H9 := H3.ext u39
  obtain ⟨Ma, w, ca, ua, oa, _⟩ := I_bytes H9 (i := 0) rfl rfl
  have oa : Own1 Ma w ([0, 1] ++ (sh ++ [5])) := oa
  have oal := oa.1
  have q2 := EqBytes_C oa.ints (o9.upto ua).ints (by simp only [List.length_append, List.length_cons, List.length_nil] at oal; omega)
  have ee : decide ([0, 1] ++ (sh ++ [5]) = [0, 1] ++ sh ++ [5]) = true := decide_eq_true (by rw [List.append_assoc])
  rw [ee] at q2
  have hn7 : M7.n = M6.n + 1 := n7
  have qb : (b != b) = false := by simp
  have hE4 := p6_4_eq C prog.meth (some (o1, 0)) 8 (.known 8) (some (o2, 0)) 8 (.known 8) (some (o3, 0)) 8 (.known 8) (i : Int) (some (s, 0)) 0 M1
  have hE6 := p6_6_eq C prog.meth (some (o1, 0)) 8 (.known 8) (some (o2, 0)) 8 (.known 8) (some (o3, 0)) 8 (.known 8) (i : Int) (some (s, 0)) 0 b 0 M3
  have hE8 := p6_8_eq C prog.meth (some (o1, 0)) 8 (.known 8) (some (o2, 0)) 8 (.known 8) (some (o3, 0)) 8 (.known 8) (i : Int) (some (s, 0)) 0 b 0 v.1 v.2.1 (.known v.2.1) b M5
  have hE10 := p6_10_eq C prog.meth (some (o1, 0)) 8 (.known 8) (some (o2, 0)) 8 (.known 8) (some (o3, 0)) 8 (.known 8) (i : Int) (some (s, 0)) 0 b 0 v.1 v.2.1 (.known v.2.1) b (some (M7.n + 1, 0)) (2 + hv4.2.1 + 1) (.unk 0) M9
  have hE12 := p6_12_eq C prog.meth (some (o1, 0)) 8 (.known 8) (some (o2, 0)) 8 (.known 8) (some (o3, 0)) 8 (.known 8) (i : Int) false Ma
  simp only [int?_int, rvs, Int.reduceBEq, Int.reduceBNe, Int.cast_ofNat_Int, q, c1] at hE
  simp only [int?_int, rvs, Int.reduceBEq, Int.reduceBNe, Int.cast_ofNat_Int, slPtr, k0, k1, Int.toNat_natCast, Nat.zero_add, Nat.mul_one, h1, c2, c3] at hE4
  simp only [int?_int, rvs, Int.reduceBEq, Int.reduceBNe, Int.cast_ofNat_Int, slPtr, e4, k0, k1, Int.toNat_natCast, Nat.zero_add, Nat.mul_one, f1, c5] at hE6
  simp only [int?_int, rvs, Int.reduceBEq, Int.reduceBNe, Int.cast_ofNat_Int, slPtr, e6, k0, k1, Int.toNat_natCast, Nat.zero_add, Nat.mul_one, f6'] at hE8
  rw [ap1, ap2] at hE8
  simp only [int?_int, rvs, Int.reduceBEq, Int.reduceBNe, Int.cast_ofNat_Int, slPtr, k0, k1, Int.toNat_natCast, Nat.zero_add, Nat.mul_one, x4, qb, x6, q1, ca] at hE10
  rw [q2, Option.bind_some] at hE10
  simp only [int?_int, rvs, Int.reduceBEq, Int.reduceBNe, Int.cast_ofNat_Int] at hE10
  simp only [cond_false, w1] at hE12
  exact ⟨Ma, hE.trans (hE4.trans (hE6.trans (hE8.trans (hE10.trans hE12)))), H3.up.trans (u39.trans ua)⟩
theorem fk_loop {o1 o2 o3 : Nat} : ∀ (dd i : Nat) (M : Mem), i + dd = 8 → KD M o1 o2 o3 → ∃ M', p6_3 C prog.meth (some (o1, 0)) 8 (.known 8) (some (o2, 0)) 8 (.known 8) (some (o3, 0)) 8 (.known 8) (i : Int) M = p6_3 C prog.meth (some (o1, 0)) 8 (.known 8) (some (o2, 0)) 8 (.known 8) (some (o3, 0)) 8 (.known 8) 8 M' := by
  intro dd
  induction dd with
  | zero =>
    intro i M hi _
    obtain rfl : i = 8 := by omega
    exact ⟨M, rfl⟩
  | succ dd ih =>
    intro i M hi K
    obtain ⟨M1, r1, u1⟩ := fk_step K (i := i) (by omega)
    obtain ⟨M2, r2⟩ := ih (i + 1) M1 (by omega) (K.up u1)
    exact ⟨M2, r1.trans r2⟩
end
set_option maxHeartbeats 8000000 in
attribute [local congr] bind_lazy cond_lazy in
theorem fk_build (M : Mem) : ∃ M' o1 o2 o3, p6_0 C prog.meth M = p6_3 C prog.meth (some (o1, 0)) 8 (.known 8) (some (o2, 0)) 8 (.known 8) (some (o3, 0)) 8 (.known 8) 0 M' ∧ KD M' o1 o2 o3 := by
  have hE := p6_0_eq C prog.meth M
  obtain ⟨M1, e1, g1, u1, n1⟩ := alloc_at M ⟨[.int .u8 9, .int .u8 8], .fixed⟩
  obtain ⟨M2, e2, u2⟩ := deed_C M1 2 0 (some (M.n, 0), 2, .known 2)
  obtain ⟨M3, e3, u3⟩ := deed_C M2 1 0 (none, 0, .known 0)
  obtain ⟨M4, e4, u4⟩ := deed_C M3 1 1 (none, 0, .known 0)
  obtain ⟨M5, e5, g5, u5, n5⟩ := alloc_at M4 ⟨[.int .u8 2, .int .i64 0, .sl (some (M.n, 0)) 2 (.known 2), .int .u8 1, .int .i64 0, .sl none 0 (.known 0), .int .u8 1, .int .i64 1, .sl none 0 (.known 0)], .fixed⟩
  obtain ⟨M6, e6, g6, u6, n6⟩ := alloc_at M5 ⟨[.int .u8 7, .int .u8 7, .int .u8 7, .int .u8 7], .fixed⟩
  obtain ⟨M7, e7, u7⟩ := deed_C M6 2 1 (some (M5.n, 0), 4, .known 4)
  obtain ⟨M8, e8, g8, u8, n8⟩ := alloc_at M7 ⟨[.int .u8 2, .int .i64 1, .sl (some (M5.n, 0)) 4 (.known 4)], .fixed⟩
  obtain ⟨M9, e9, g9, u9, n9⟩ := alloc_at M8 ⟨[.int .u8 6], .fixed⟩
  obtain ⟨M10, e10, u10⟩ := deed_C M9 4 0 (some (M8.n, 0), 1, .known 1)
  obtain ⟨M11, e11, g11, u11, n11⟩ := alloc_at M10 ⟨[.int .u8 9], .fixed⟩
  obtain ⟨M12, e12, u12⟩ := deed_C M11 2 0 (some (M10.n, 0), 1, .known 1)
  obtain ⟨M13, e13, u13⟩ := deed_C M12 1 0 (none, 0, .known 0)
  obtain ⟨M14, e14, u14⟩ := deed_C M13 1 3 (none, 0, .known 0)
  obtain ⟨M15, e15, g15, u15, n15⟩ := alloc_at M14 ⟨[.int .u8 4, .int .i64 0, .sl (some (M8.n, 0)) 1 (.known 1), .int .u8 2, .int .i64 0, .sl (some (M10.n, 0)) 1 (.known 1), .int .u8 1, .int .i64 0, .sl none 0 (.known 0), .int .u8 1, .int .i64 3, .sl none 0 (.known 0)], .fixed⟩
  obtain ⟨M16, e16, u16⟩ := deed_C M15 3 1 (none, 0, .known 0)
  obtain ⟨M17, e17, g17, u17, n17⟩ := alloc_at M16 ⟨[.int .u8 9], .fixed⟩
  obtain ⟨M18, e18, u18⟩ := deed_C M17 2 0 (some (M16.n, 0), 1, .known 1)
  obtain ⟨M19, e19, u19⟩ := deed_C M18 1 1 (none, 0, .known 0)
  obtain ⟨M20, e20, u20⟩ := deed_C M19 3 9 (none, 0, .known 0)
  obtain ⟨M21, e21, u21⟩ := deed_C M20 1 0 (none, 0, .known 0)
  obtain ⟨M22, e22, g22, u22, n22⟩ := alloc_at M21 ⟨[.int .u8 3, .int .i64 1, .sl none 0 (.known 0), .int .u8 2, .int .i64 0, .sl (some (M16.n, 0)) 1 (.known 1), .int .u8 1, .int .i64 1, .sl none 0 (.known 0), .int .u8 3, .int .i64 9, .sl none 0 (.known 0), .int .u8 1, .int .i64 0, .sl none 0 (.known 0)], .fixed⟩
  obtain ⟨M23, e23, g23, u23, n23⟩ := alloc_at M22 ⟨[.int .u8 9, .int .u8 8], .fixed⟩
  obtain ⟨M24, e24, u24⟩ := deed_C M23 2 (-1) (some (M22.n, 0), 2, .known 2)
  obtain ⟨M25, e25, g25, u25, n25⟩ := alloc_at M24 ⟨[.int .u8 9], .fixed⟩
  obtain ⟨M26, e26, u26⟩ := deed_C M25 2 4 (some (M24.n, 0), 1, .known 1)
  obtain ⟨M27, e27, g27, u27, n27⟩ := alloc_at M26 ⟨[.int .u8 2, .int .i64 (-1), .sl (some (M22.n, 0)) 2 (.known 2), .int .u8 2, .int .i64 4, .sl (some (M24.n, 0)) 1 (.known 1)], .fixed⟩
  obtain ⟨M28, e28, u28⟩ := deed_C M27 4 0 (none, 0, .known 0)
  obtain ⟨M29, e29, g29, u29, n29⟩ := alloc_at M28 ⟨[.int .u8 9], .fixed⟩
  obtain ⟨M30, e30, u30⟩ := deed_C M29 2 0 (some (M28.n, 0), 1, .known 1)
  obtain ⟨M31, e31, g31, u31, n31⟩ := alloc_at M30 ⟨[.int .u8 4, .int .i64 0, .sl none 0 (.known 0), .int .u8 2, .int .i64 0, .sl (some (M28.n, 0)) 1 (.known 1)], .fixed⟩
  obtain ⟨M32, e32, g32, u32, n32⟩ := alloc_at M31 ⟨[.int .u8 1], .fixed⟩
  obtain ⟨M33, e33, u33⟩ := deed_C M32 5 0 (some (M31.n, 0), 1, .known 1)
  obtain ⟨M34, e34, g34, u34, n34⟩ := alloc_at M33 ⟨[.int .u8 1], .fixed⟩
  obtain ⟨M35, e35, u35⟩ := deed_C M34 0 0 (some (M33.n, 0), 1, .known 1)
  obtain ⟨M36, e36, g36, u36, n36⟩ := alloc_at M35 ⟨[.int .u8 5, .int .i64 0, .sl (some (M31.n, 0)) 1 (.known 1), .int .u8 0, .int .i64 0, .sl (some (M33.n, 0)) 1 (.known 1)], .fixed⟩
  obtain ⟨M37, e37, g37, u37, n37⟩ := alloc_at M36 ⟨[.int .u8 6], .fixed⟩
  obtain ⟨M38, e38, u38⟩ := deed_C M37 4 0 (some (M36.n, 0), 1, .known 1)
  obtain ⟨M39, e39, u39⟩ := deed_C M38 3 4 (none, 0, .known 0)
  obtain ⟨M40, e40, u40⟩ := deed_C M39 1 0 (none, 0, .known 0)
  obtain ⟨M41, e41, g41, u41, n41⟩ := alloc_at M40 ⟨[.int .u8 5], .fixed⟩
  obtain ⟨M42, e42, u42⟩ := deed_C M41 4 0 (some (M40.n, 0), 1, .known 1)
  obtain ⟨M43, e43, u43⟩ := deed_C M42 3 0 (none, 0, .known 0)
  obtain ⟨M44, e44, u44⟩ := deed_C M43 1 0 (none, 0, .known 0)
  obtain ⟨M45, e45, g45, u45, n45⟩ := alloc_at M44 ⟨[.int .u8 4, .int .i64 0, .sl (some (M36.n, 0)) 1 (.known 1), .int .u8 3, .int .i64 4, .sl none 0 (.known 0), .int .u8 1, .int .i64 0, .sl none 0 (.known 0), .int .u8 4, .int .i64 0, .sl (some (M40.n, 0)) 1 (.known 1), .int .u8 3, .int .i64 0, .sl none 0 (.known 0), .int .u8 1, .int .i64 0, .sl none 0 (.known 0)], .fixed⟩
  obtain ⟨M46, e46, g46, u46, n46⟩ := alloc_at M45 ⟨[.sl (some (M4.n, 0)) 3 (.known 3), .sl (some (M7.n, 0)) 1 (.known 1), .sl (some (M14.n, 0)) 4 (.known 4), .sl (some (M21.n, 0)) 5 (.known 5), .sl (some (M26.n, 0)) 2 (.known 2), .sl (some (M30.n, 0)) 2 (.known 2), .sl (some (M35.n, 0)) 2 (.known 2), .sl (some (M44.n, 0)) 6 (.known 6)], .fixed⟩
  obtain ⟨M47, e47, g47, u47, n47⟩ := alloc_at M46 ⟨[.int .u64 27, .int .u64 10, .int .u64 25, .int .u64 23, .int .u64 10, .int .u64 10, .int .u64 10, .int .u64 15], .fixed⟩
  obtain ⟨M48, e48, g48, u48, n48⟩ := alloc_at M47 ⟨[.int .u8 9, .int .u8 8, .int .u8 4], .fixed⟩
  obtain ⟨M49, e49, g49, u49, n49⟩ := alloc_at M48 ⟨[.int .u8 2, .int .u8 7, .int .u8 7], .fixed⟩
  obtain ⟨M50, e50, g50, u50, n50⟩ := alloc_at M49 ⟨[.int .u8 2, .int .u8 3, .int .u8 4], .fixed⟩
  obtain ⟨M51, e51, g51, u51, n51⟩ := alloc_at M50 ⟨[.int .u8 2, .int .u8 9, .int .u8 4], .fixed⟩
  obtain ⟨M52, e52, g52, u52, n52⟩ := alloc_at M51 ⟨[.int .u8 8, .int .u8 3, .int .u8 4], .fixed⟩
  obtain ⟨M53, e53, g53, u53, n53⟩ := alloc_at M52 ⟨[.int .u8 9, .int .u8 3, .int .u8 4], .fixed⟩
  obtain ⟨M54, e54, g54, u54, n54⟩ := alloc_at M53 ⟨[.int .u8 2, .int .u8 3, .int .u8 4], .fixed⟩
  obtain ⟨M55, e55, g55, u55, n55⟩ := alloc_at M54 ⟨[.int .u8 2, .int .u8 3, .int .u8 4], .fixed⟩
  obtain ⟨M56, e56, g56, u56, n56⟩ := alloc_at M55 ⟨[.sl (some (M47.n, 0)) 3 (.known 3), .sl (some (M48.n, 0)) 3 (.known 3), .sl (some (M49.n, 0)) 3 (.known 3), .sl (some (M50.n, 0)) 3 (.known 3), .sl (some (M51.n, 0)) 3 (.known 3), .sl (some (M52.n, 0)) 3 (.known 3), .sl (some (M53.n, 0)) 3 (.known 3), .sl (some (M54.n, 0)) 3 (.known 3)], .fixed⟩
  simp (maxSteps := 3000000) only [int?_int, rvs, Int.reduceBEq, Int.reduceBNe, Int.cast_ofNat_Int, e1, e2, e3, e4, e5, e6, e7, e8, e9, e10, e11, e12, e13, e14, e15, e16, e17, e18, e19, e20, e21, e22, e23, e24, e25, e26, e27, e28, e29, e30, e31, e32, e33, e34, e35, e36, e37, e38, e39, e40, e41, e42, e43, e44, e45, e46] at hE
  have hE1 := p6_1_eq C prog.meth (some (M45.n, 0)) 8 (.known 8) M46
  simp only [e47, e48, e49, e50, e51, e52, e53, e54, e55, e56] at hE1
  have hE2 := p6_2_eq C prog.meth (some (M45.n, 0)) 8 (.known 8) (some (M46.n, 0)) 8 (.known 8) (some (M55.n, 0)) 8 (.known 8) M56
  have t56 : M56.Upto M56 := Mem.Upto.refl _
  have t55 : M55.Upto M56 := u56.trans t56
  have t54 : M54.Upto M56 := u55.trans t55
  have t53 : M53.Upto M56 := u54.trans t54
  have t52 : M52.Upto M56 := u53.trans t53
  have t51 : M51.Upto M56 := u52.trans t52
  have t50 : M50.Upto M56 := u51.trans t51
  have t49 : M49.Upto M56 := u50.trans t50
  have t48 : M48.Upto M56 := u49.trans t49
  have t47 : M47.Upto M56 := u48.trans t48
  have t46 : M46.Upto M56 := u47.trans t47
  have t45 : M45.Upto M56 := u46.trans t46
  have t44 : M44.Upto M56 := u45.trans t45
  have t43 : M43.Upto M56 := u44.trans t44
  have t42 : M42.Upto M56 := u43.trans t43
  have t41 : M41.Upto M56 := u42.trans t42
  have t40 : M40.Upto M56 := u41.trans t41
  have t39 : M39.Upto M56 := u40.trans t40
  have t38 : M38.Upto M56 := u39.trans t39
  have t37 : M37.Upto M56 := u38.trans t38
  have t36 : M36.Upto M56 := u37.trans t37
  have t35 : M35.Upto M56 := u36.trans t36
  have t34 : M34.Upto M56 := u35.trans t35
  have t33 : M33.Upto M56 := u34.trans t34
  have t32 : M32.Upto M56 := u33.trans t33
  have t31 : M31.Upto M56 := u32.trans t32
  have t30 : M30.Upto M56 := u31.trans t31
  have t29 : M29.Upto M56 := u30.trans t30
  have t28 : M28.Upto M56 := u29.trans t29
  have t27 : M27.Upto M56 := u28.trans t28
  have t26 : M26.Upto M56 := u27.trans t27
  have t25 : M25.Upto M56 := u26.trans t26
  have t24 : M24.Upto M56 := u25.trans t25
  have t23 : M23.Upto M56 := u24.trans t24
  have t22 : M22.Upto M56 := u23.trans t23
  have t21 : M21.Upto M56 := u22.trans t22
  have t20 : M20.Upto M56 := u21.trans t21
  have t19 : M19.Upto M56 := u20.trans t20
  have t18 : M18.Upto M56 := u19.trans t19
  have t17 : M17.Upto M56 := u18.trans t18
  have t16 : M16.Upto M56 := u17.trans t17
  have t15 : M15.Upto M56 := u16.trans t16
  have t14 : M14.Upto M56 := u15.trans t15
  have t13 : M13.Upto M56 := u14.trans t14
  have t12 : M12.Upto M56 := u13.trans t13
  have t11 : M11.Upto M56 := u12.trans t12
  have t10 : M10.Upto M56 := u11.trans t11
  have t9 : M9.Upto M56 := u10.trans t10
  have t8 : M8.Upto M56 := u9.trans t9
  have t7 : M7.Upto M56 := u8.trans t8
  have t6 : M6.Upto M56 := u7.trans t7
  have t5 : M5.Upto M56 := u6.trans t6
  have t4 : M4.Upto M56 := u5.trans t5
  have t3 : M3.Upto M56 := u4.trans t4
  have t2 : M2.Upto M56 := u3.trans t3
  have t1 : M1.Upto M56 := u2.trans t2
  have t0 : M.Upto M56 := u1.trans t1
  have D0 : Deeds M56 (some (M4.n, 0)) 3 (.known 3) [(2, 0, [9, 8]), (1, 0, []), (1, 1, [])] := deeds_lit (L := [(2, 0, [9, 8]), (1, 0, []), (1, 1, [])]) (rows := [(2, 0, (some (M.n, 0), 2, .known 2)), (1, 0, (none, 0, .known 0)), (1, 1, (none, 0, .known 0))]) (t5.get g5) (And.intro ⟨rfl, rfl, PS.lit (xs := [9, 8]) (t1.get g1) (by simp)⟩ (And.intro ⟨rfl, rfl, PS.zero _⟩ (And.intro ⟨rfl, rfl, PS.zero _⟩ trivial)))
  have D1 : Deeds M56 (some (M7.n, 0)) 1 (.known 1) [(2, 1, [7, 7, 7, 7])] := deeds_lit (L := [(2, 1, [7, 7, 7, 7])]) (rows := [(2, 1, (some (M5.n, 0), 4, .known 4))]) (t8.get g8) (And.intro ⟨rfl, rfl, PS.lit (xs := [7, 7, 7, 7]) (t6.get g6) (by simp)⟩ trivial)
  have D2 : Deeds M56 (some (M14.n, 0)) 4 (.known 4) [(4, 0, [6]), (2, 0, [9]), (1, 0, []), (1, 3, [])] := deeds_lit (L := [(4, 0, [6]), (2, 0, [9]), (1, 0, []), (1, 3, [])]) (rows := [(4, 0, (some (M8.n, 0), 1, .known 1)), (2, 0, (some (M10.n, 0), 1, .known 1)), (1, 0, (none, 0, .known 0)), (1, 3, (none, 0, .known 0))]) (t15.get g15) (And.intro ⟨rfl, rfl, PS.lit (xs := [6]) (t9.get g9) (by simp)⟩ (And.intro ⟨rfl, rfl, PS.lit (xs := [9]) (t11.get g11) (by simp)⟩ (And.intro ⟨rfl, rfl, PS.zero _⟩ (And.intro ⟨rfl, rfl, PS.zero _⟩ trivial))))
  have D3 : Deeds M56 (some (M21.n, 0)) 5 (.known 5) [(3, 1, []), (2, 0, [9]), (1, 1, []), (3, 9, []), (1, 0, [])] := deeds_lit (L := [(3, 1, []), (2, 0, [9]), (1, 1, []), (3, 9, []), (1, 0, [])]) (rows := [(3, 1, (none, 0, .known 0)), (2, 0, (some (M16.n, 0), 1, .known 1)), (1, 1, (none, 0, .known 0)), (3, 9, (none, 0, .known 0)), (1, 0, (none, 0, .known 0))]) (t22.get g22) (And.intro ⟨rfl, rfl, PS.zero _⟩ (And.intro ⟨rfl, rfl, PS.lit (xs := [9]) (t17.get g17) (by simp)⟩ (And.intro ⟨rfl, rfl, PS.zero _⟩ (And.intro ⟨rfl, rfl, PS.zero _⟩ (And.intro ⟨rfl, rfl, PS.zero _⟩ trivial)))))
  have D4 : Deeds M56 (some (M26.n, 0)) 2 (.known 2) [(2, (-1), [9, 8]), (2, 4, [9])] := deeds_lit (L := [(2, (-1), [9, 8]), (2, 4, [9])]) (rows := [(2, (-1), (some (M22.n, 0), 2, .known 2)), (2, 4, (some (M24.n, 0), 1, .known 1))]) (t27.get g27) (And.intro ⟨rfl, rfl, PS.lit (xs := [9, 8]) (t23.get g23) (by simp)⟩ (And.intro ⟨rfl, rfl, PS.lit (xs := [9]) (t25.get g25) (by simp)⟩ trivial))
  have D5 : Deeds M56 (some (M30.n, 0)) 2 (.known 2) [(4, 0, []), (2, 0, [9])] := deeds_lit (L := [(4, 0, []), (2, 0, [9])]) (rows := [(4, 0, (none, 0, .known 0)), (2, 0, (some (M28.n, 0), 1, .known 1))]) (t31.get g31) (And.intro ⟨rfl, rfl, PS.zero _⟩ (And.intro ⟨rfl, rfl, PS.lit (xs := [9]) (t29.get g29) (by simp)⟩ trivial))
  have D6 : Deeds M56 (some (M35.n, 0)) 2 (.known 2) [(5, 0, [1]), (0, 0, [1])] := deeds_lit (L := [(5, 0, [1]), (0, 0, [1])]) (rows := [(5, 0, (some (M31.n, 0), 1, .known 1)), (0, 0, (some (M33.n, 0), 1, .known 1))]) (t36.get g36) (And.intro ⟨rfl, rfl, PS.lit (xs := [1]) (t32.get g32) (by simp)⟩ (And.intro ⟨rfl, rfl, PS.lit (xs := [1]) (t34.get g34) (by simp)⟩ trivial))
  have D7 : Deeds M56 (some (M44.n, 0)) 6 (.known 6) [(4, 0, [6]), (3, 4, []), (1, 0, []), (4, 0, [5]), (3, 0, []), (1, 0, [])] := deeds_lit (L := [(4, 0, [6]), (3, 4, []), (1, 0, []), (4, 0, [5]), (3, 0, []), (1, 0, [])]) (rows := [(4, 0, (some (M36.n, 0), 1, .known 1)), (3, 4, (none, 0, .known 0)), (1, 0, (none, 0, .known 0)), (4, 0, (some (M40.n, 0), 1, .known 1)), (3, 0, (none, 0, .known 0)), (1, 0, (none, 0, .known 0))]) (t45.get g45) (And.intro ⟨rfl, rfl, PS.lit (xs := [6]) (t37.get g37) (by simp)⟩ (And.intro ⟨rfl, rfl, PS.zero _⟩ (And.intro ⟨rfl, rfl, PS.zero _⟩ (And.intro ⟨rfl, rfl, PS.lit (xs := [5]) (t41.get g41) (by simp)⟩ (And.intro ⟨rfl, rfl, PS.zero _⟩ (And.intro ⟨rfl, rfl, PS.zero _⟩ trivial))))))
  refine ⟨M56, _, _, _, hE.trans (hE1.trans hE2), ⟨fun i hi => ?_⟩⟩
  have h : i = 0 ∨ i = 1 ∨ i = 2 ∨ i = 3 ∨ i = 4 ∨ i = 5 ∨ i = 6 ∨ i = 7 := by omega
  rcases h with rfl | rfl | rfl | rfl | rfl | rfl | rfl | rfl
  · exact ⟨(some (M4.n, 0), 3, .known 3), (some (M47.n, 0), 3, .known 3), _, _, _, by rw [ldL_at (t46.get g46)]; rfl, D0, rfl, by rw [ldI_at (t47.get g47)]; rfl, rfl, by rw [ldL_at (t56.get g56)]; rfl, rfl, ints_whole (xs := [9, 8, 4]) (k := .u8) (t48.get g48) (by simp) rfl⟩
  · exact ⟨(some (M7.n, 0), 1, .known 1), (some (M48.n, 0), 3, .known 3), _, _, _, by rw [ldL_at (t46.get g46)]; rfl, D1, rfl, by rw [ldI_at (t47.get g47)]; rfl, rfl, by rw [ldL_at (t56.get g56)]; rfl, rfl, ints_whole (xs := [2, 7, 7]) (k := .u8) (t49.get g49) (by simp) rfl⟩
  · exact ⟨(some (M14.n, 0), 4, .known 4), (some (M49.n, 0), 3, .known 3), _, _, _, by rw [ldL_at (t46.get g46)]; rfl, D2, rfl, by rw [ldI_at (t47.get g47)]; rfl, rfl, by rw [ldL_at (t56.get g56)]; rfl, rfl, ints_whole (xs := [2, 3, 4]) (k := .u8) (t50.get g50) (by simp) rfl⟩
  · exact ⟨(some (M21.n, 0), 5, .known 5), (some (M50.n, 0), 3, .known 3), _, _, _, by rw [ldL_at (t46.get g46)]; rfl, D3, rfl, by rw [ldI_at (t47.get g47)]; rfl, rfl, by rw [ldL_at (t56.get g56)]; rfl, rfl, ints_whole (xs := [2, 9, 4]) (k := .u8) (t51.get g51) (by simp) rfl⟩
  · exact ⟨(some (M26.n, 0), 2, .known 2), (some (M51.n, 0), 3, .known 3), _, _, _, by rw [ldL_at (t46.get g46)]; rfl, D4, rfl, by rw [ldI_at (t47.get g47)]; rfl, rfl, by rw [ldL_at (t56.get g56)]; rfl, rfl, ints_whole (xs := [8, 3, 4]) (k := .u8) (t52.get g52) (by simp) rfl⟩
  · exact ⟨(some (M30.n, 0), 2, .known 2), (some (M52.n, 0), 3, .known 3), _, _, _, by rw [ldL_at (t46.get g46)]; rfl, D5, rfl, by rw [ldI_at (t47.get g47)]; rfl, rfl, by rw [ldL_at (t56.get g56)]; rfl, rfl, ints_whole (xs := [9, 3, 4]) (k := .u8) (t53.get g53) (by simp) rfl⟩
  · exact ⟨(some (M35.n, 0), 2, .known 2), (some (M53.n, 0), 3, .known 3), _, _, _, by rw [ldL_at (t46.get g46)]; rfl, D6, rfl, by rw [ldI_at (t47.get g47)]; rfl, rfl, by rw [ldL_at (t56.get g56)]; rfl, rfl, ints_whole (xs := [2, 3, 4]) (k := .u8) (t54.get g54) (by simp) rfl⟩
  · exact ⟨(some (M44.n, 0), 6, .known 6), (some (M54.n, 0), 3, .known 3), _, _, _, by rw [ldL_at (t46.get g46)]; rfl, D7, rfl, by rw [ldI_at (t47.get g47)]; rfl, rfl, by rw [ldL_at (t56.get g56)]; rfl, rfl, ints_whole (xs := [2, 3, 4]) (k := .u8) (t55.get g55) (by simp) rfl⟩
end Go.Proofs.Ytjcakemgghfflaa.M
