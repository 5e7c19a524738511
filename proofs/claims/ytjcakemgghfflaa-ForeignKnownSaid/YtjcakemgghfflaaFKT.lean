import Derived.Test.YtjcakemgghfflaaFKN
set_option linter.unusedVariables false
set_option linter.unusedSimpArgs false
set_option linter.unnecessarySimpa false
set_option maxRecDepth 100000
namespace Go.Proofs.Ytjcakemgghfflaa.M
open Go.Abs Go.RowKit
section
variable {M0 M M' : Mem} {role role' : Nat → Rj} {hs : List Nat} {cur : List (Option Nat)} {gs : List Gp} {ds : List Dt} {h i g : Nat} {d : Dt}
theorem fthere_nil (M : Mem) : C 37 [.ptr none] M = some (.int .i64 1, M) := by
  have hE := p37_0_eq C prog.meth none M
  simp only [int?_int, rvs, Int.reduceBEq, Int.reduceBNe, Int.cast_ofNat_Int] at hE
  exact c37 hE
theorem fthere_zero {o : Nat} (hg : M.get o = some ⟨[.bool false, .ptr none], .fixed⟩) : C 37 [.ptr (some (o, 0))] M = some (.int .i64 1, M) := by
  have hE := p37_0_eq C prog.meth (some (o, 0)) M
  simp only [int?_int, rvs, Int.reduceBEq, Int.reduceBNe, Int.cast_ofNat_Int, Nat.zero_add, ldB_at hg] at hE
  exact c37 hE
theorem lend_nil (p : Option (Nat × Nat)) (v : AVal) (a n x : Int) (M : Mem) : ∃ M', C 12 [.ptr p, .agg [.int .i64 a, .int .i64 n], .ifc none v, .int .u64 x] M = some (.tup [.int .u64 0, .int .i64 1], M') ∧ M.Upto M' := by
  have hE := p12_0_eq C prog.meth p a n none v x M
  obtain ⟨M1, e1, g1, u1, n1⟩ := alloc_at M ⟨[.int .i64 a, .int .i64 n], .fixed⟩
  simp only [int?_int, rvs, Int.reduceBEq, Int.reduceBNe, Int.cast_ofNat_Int, e1] at hE
  exact ⟨M1, c12 hE, u1⟩
theorem lend_of {p : Option (Nat × Nat)} {e : Int} (he : e = 1 ∨ e = 40) (ht : ∀ M', M.Upto M' → C 37 [.ptr p] M' = some (.int .i64 e, M')) (t : Nat) (v : AVal) (a n x : Int) : ∃ M', C 12 [.ptr p, .agg [.int .i64 a, .int .i64 n], .ifc (some t) v, .int .u64 x] M = some (.tup [.int .u64 0, .int .i64 e], M') ∧ M.Upto M' := by
  have hE := p12_0_eq C prog.meth p a n (some t) v x M
  obtain ⟨M1, e1, g1, u1, n1⟩ := alloc_at M ⟨[.int .i64 a, .int .i64 n], .fixed⟩
  have hL := p32_0_eq C prog.meth p 0 1 M1
  rw [ht M1 u1, Option.bind_some] at hL
  simp only [int?_int, rvs, Int.reduceBEq, Int.reduceBNe, Int.cast_ofNat_Int, e1] at hE
  rcases he with rfl | rfl
  · simp only [int?_int, rvs, Int.reduceBEq, Int.reduceBNe, Int.cast_ofNat_Int] at hL
    rw [c32 hL, Option.bind_some] at hE
    simp only [int?_int, rvs, Int.reduceBEq, Int.reduceBNe, Int.cast_ofNat_Int] at hE
    exact ⟨M1, c12 hE, u1⟩
  · simp only [int?_int, rvs, Int.reduceBEq, Int.reduceBNe, Int.cast_ofNat_Int] at hL
    rw [c32 hL, Option.bind_some] at hE
    simp only [int?_int, rvs, Int.reduceBEq, Int.reduceBNe, Int.cast_ofNat_Int] at hE
    exact ⟨M1, c12 hE, u1⟩
theorem fk_tail (a1 a2 a3 : Option (Nat × Nat)) (l2 l3 : Nat) (c1 c2 c3 : Cap) (M : Mem) : ∃ M', p6_3 C prog.meth a1 8 c1 a2 l2 c2 a3 l3 c3 8 M = p6_18 C prog.meth true M' := by
  have hE := p6_3_eq C prog.meth a1 8 c1 a2 l2 c2 a3 l3 c3 8 M
  have q : ¬ ((8 : Int) < 8) := by omega
  obtain ⟨M1, s, role1, gs1, k1, H1⟩ := six_C M
  obtain ⟨M2, k2, u2⟩ := deed_C M1 1 0 (none, 0, .known 0)
  obtain ⟨M3, e3, g3, u3, n3⟩ := alloc_at M2 ⟨[.int .u8 1, .int .i64 0, .sl none 0 (.known 0)], .fixed⟩
  have D : Deeds M3 (some (M2.n, 0)) 1 (.known 1) [(1, 0, [])] := deeds_lit (L := [(1, 0, [])]) (rows := [(1, 0, (none, 0, .known 0))]) g3 (And.intro ⟨rfl, rfl, PS.zero _⟩ trivial)
  have hok : ∀ d ∈ ([(1, 0, [])] : List Deed), DeedOk d := by unfold DeedOk wfB; decide +kernel
  obtain ⟨M4, a, l, c, rows, k4, u4, hO⟩ := Script_C D hok (by simp)
  have u14 := u2.trans (u3.trans u4)
  have un := (u2.trans u3).1
  have H4 := H1.ext u14
  obtain ⟨M5, k5, u5⟩ := Lend_out H4 (i := 0) (g := 0) rfl rfl rfl (t := 88) (v := .agg [.sl a l c]) (at_ := 5) (n := 2) (arg := 1) (by omega) (by unfold inR; simp)
  have H5 := H4.ext u5
  have hO5 := hO.upto u5
  have u4n := u4.1
  obtain ⟨M6, role6, gs6, k6, H6, F6⟩ := Lend_script H5 (i := 0) (g := 0) rfl rfl rfl (at_ := 6) (n := 0) (arg := 1) (by simp) hO5 (fun y hy1 hy2 => by rw [extR_lt hy2]; exact extR_ge (by omega)) hok (by simp) (fun d hd => by simp only [List.mem_singleton] at hd; subst hd; simp)
  have H6 : GS false KI M M6 role6 [s] [some 0] gs6 [⟨[0, 1, 2, 3, 4, 5], 64, 64, 0⟩] := H6
  have k6 : C 12 [.ptr (some (s, 0)), .agg [.int .i64 6, .int .i64 0], .ifc (some 88) (.agg [.sl a l c]), .int .u64 1] M5 = some (.tup [.int .u64 1, .int .i64 0], M6) := k6
  obtain ⟨M7, k7, u7⟩ := lend_nil (some (s, 0)) (.tup []) 0 1 1 M6
  have H7 := H6.ext u7
  obtain ⟨M8, k8, u8⟩ := Lend_out H7 (i := 0) (g := 0) rfl rfl rfl (t := 88) (v := .agg [.sl a l c]) (at_ := 9223372036854775807) (n := 9223372036854775807) (arg := 1) (by omega) (by unfold inR; simp)
  have H8 := H7.ext u8
  obtain ⟨M9, k9, u9⟩ := Lend_out H8 (i := 0) (g := 0) rfl rfl rfl (t := 88) (v := .agg [.sl a l c]) (at_ := -1) (n := 1) (arg := 1) (by omega) (by unfold inR; simp)
  have H9 := H8.ext u9
  obtain ⟨M10, k10, u10⟩ := lend_of (M := M9) (.inl rfl) (fun M' _ => fthere_nil M') 88 (.agg [.sl a l c]) 0 0 1
  obtain ⟨M11, e11, g11, u11, n11⟩ := alloc_at M10 ⟨[.bool false, .ptr none], .fixed⟩
  obtain ⟨M12, k12, u12⟩ := lend_of (M := M11) (.inl rfl) (fun M' hu => fthere_zero (hu.get g11)) 88 (.agg [.sl a l c]) 0 0 1
  have H12 := H9.ext (u10.trans (u11.trans u12))
  obtain ⟨M13, k13, I13, F13⟩ := I_free H12 (i := 0) (g := 0) rfl rfl
  obtain ⟨M14, k14, u14'⟩ := lend_of (M := M13) (.inr rfl) (fun M' hu => I_gone (I13.ext hu) (i := 0) rfl rfl) 88 (.agg [.sl a l c]) 9 0 1
  have h5 := p6_5_eq C prog.meth (some (s, 0)) M1
  have h7 := p6_7_eq C prog.meth (some (s, 0)) (some 88) (.agg [.sl a l c]) 20 M5
  have h9 := p6_9_eq C prog.meth (some (s, 0)) (some 88) (.agg [.sl a l c]) 20 1 0 M6
  have h11 := p6_11_eq C prog.meth (some (s, 0)) (some 88) (.agg [.sl a l c]) 20 1 0 1 M7
  have h13 := p6_13_eq C prog.meth (some (s, 0)) (some 88) (.agg [.sl a l c]) 20 1 0 1 20 M8
  have h14 := p6_14_eq C prog.meth (some (s, 0)) (some 88) (.agg [.sl a l c]) 20 1 0 1 20 20 M9
  have h15 := p6_15_eq C prog.meth (some (s, 0)) (some 88) (.agg [.sl a l c]) 20 1 0 1 20 20 1 M10
  have h16 := p6_16_eq C prog.meth (some (s, 0)) (some 88) (.agg [.sl a l c]) 20 1 0 1 20 20 1 1 M12
  have h17 := p6_17_eq C prog.meth 20 1 0 1 20 20 1 1 0 40 M14
  simp only [int?_int, rvs, Int.reduceBEq, Int.reduceBNe, Int.cast_ofNat_Int, q] at hE
  rw [k1, Option.bind_some] at hE
  simp only [int?_int, rvs, Int.reduceBEq, Int.reduceBNe, Int.cast_ofNat_Int] at hE
  rw [k2, Option.bind_some] at h5
  simp only [int?_int, rvs, Int.reduceBEq, Int.reduceBNe, Int.cast_ofNat_Int, e3] at h5
  rw [k4, Option.bind_some] at h5
  simp only [int?_int, rvs, Int.reduceBEq, Int.reduceBNe, Int.cast_ofNat_Int] at h5
  rw [k5, Option.bind_some] at h5
  simp only [int?_int, rvs, Int.reduceBEq, Int.reduceBNe, Int.cast_ofNat_Int] at h5
  rw [k6, Option.bind_some] at h7
  simp only [int?_int, rvs, Int.reduceBEq, Int.reduceBNe, Int.cast_ofNat_Int] at h7
  rw [k7, Option.bind_some] at h9
  simp only [int?_int, rvs, Int.reduceBEq, Int.reduceBNe, Int.cast_ofNat_Int] at h9
  rw [k8, Option.bind_some] at h11
  simp only [int?_int, rvs, Int.reduceBEq, Int.reduceBNe, Int.cast_ofNat_Int] at h11
  rw [k9, Option.bind_some] at h13
  simp only [int?_int, rvs, Int.reduceBEq, Int.reduceBNe, Int.cast_ofNat_Int] at h13
  rw [k10, Option.bind_some] at h14
  simp only [int?_int, rvs, Int.reduceBEq, Int.reduceBNe, Int.cast_ofNat_Int] at h14
  simp only [e11] at h15
  rw [k12, Option.bind_some] at h15
  simp only [int?_int, rvs, Int.reduceBEq, Int.reduceBNe, Int.cast_ofNat_Int] at h15
  rw [k13, Option.bind_some] at h16
  simp only [int?_int, rvs, Int.reduceBEq, Int.reduceBNe, Int.cast_ofNat_Int] at h16
  rw [k14, Option.bind_some] at h16
  simp only [int?_int, rvs, Int.reduceBEq, Int.reduceBNe, Int.cast_ofNat_Int] at h16
  simp only [int?_int, rvs, Int.reduceBEq, Int.reduceBNe, Int.cast_ofNat_Int] at h17
  exact ⟨M14, hE.trans (h5.trans (h7.trans (h9.trans (h11.trans (h13.trans (h14.trans (h15.trans (h16.trans h17))))))))⟩
theorem fk_last (M : Mem) : ∃ M', p6_18 C prog.meth true M = some (.bool true, M') := by
  have hE := p6_18_eq C prog.meth true M
  obtain ⟨M1, e1, g1, u1, n1⟩ := alloc_at M ⟨[.int .u8 255], .fixed⟩
  obtain ⟨M2, k2, u2⟩ := deed_C M1 1 0 (none, 0, .known 0)
  obtain ⟨M3, e3, g3, u3, n3⟩ := alloc_at M2 ⟨[.int .u8 1, .int .i64 0, .sl none 0 (.known 0)], .fixed⟩
  have D : Deeds M3 (some (M2.n, 0)) 1 (.known 1) [(1, 0, [])] := deeds_lit (L := [(1, 0, [])]) (rows := [(1, 0, (none, 0, .known 0))]) g3 (And.intro ⟨rfl, rfl, PS.zero _⟩ trivial)
  have hok : ∀ d ∈ ([(1, 0, [])] : List Deed), DeedOk d := by unfold DeedOk wfB; decide +kernel
  have i3 : M3.ints .u8 (some (M.n, 0)) 1 (.known 1) = some [255] := ints_whole (xs := [255]) (k := .u8) ((u2.trans u3).get g1) (by simp) rfl
  obtain ⟨M5, v, c5, u5, o5, _⟩ := Shown_C (arg := 18446744073709551615) (fun M2 o hu ho => D.below hu ho) hok (by simp) (fun d hd => by simp only [List.mem_singleton] at hd; subst hd; simp) i3 (by omega)
  have ea : ([(1, 0, [])] : List Deed).foldl ScS.deed ⟨[255], [], false, 0, 18446744073709551615⟩ = ⟨[255], [], false, 0, 254⟩ := by kernel_rfl
  rw [ea] at c5 o5
  have vl : v.2.1 = 1 := by rw [← o5.1]; rfl
  obtain ⟨_, cw⟩ := works23k_C
  simp only [int?_int, rvs, Int.reduceBEq, Int.reduceBNe, Int.cast_ofNat_Int, e1] at hE
  rw [k2, Option.bind_some] at hE
  simp only [int?_int, rvs, Int.reduceBEq, Int.reduceBNe, Int.cast_ofNat_Int, e3] at hE
  rw [c5, Option.bind_some] at hE
  simp only [int?_int, rvs, Int.reduceBEq, Int.reduceBNe, Int.cast_ofNat_Int] at hE
  have hF := p6_19_eq C prog.meth true v.1 v.2.1 (.known v.2.1) 254 M5
  have q1 : ((v.2.1 : Int) == 1) = true := by rw [vl]; rfl
  simp only [int?_int, rvs, Int.reduceBEq, Int.reduceBNe, Int.cast_ofNat_Int, cw, q1] at hF
  exact ⟨M5, hE.trans hF⟩
end
theorem ForeignKnown_C (M : Mem) : ∃ M', C 6 [] M = some (.bool true, M') := by
  obtain ⟨M1, o1, o2, o3, r1, K⟩ := fk_build M
  obtain ⟨M2, r2⟩ := fk_loop 8 0 M1 rfl K
  have r2 : p6_3 C prog.meth (some (o1, 0)) 8 (.known 8) (some (o2, 0)) 8 (.known 8) (some (o3, 0)) 8 (.known 8) 0 M1 = _ := r2
  obtain ⟨M3, r3⟩ := fk_tail (some (o1, 0)) (some (o2, 0)) (some (o3, 0)) 8 8 (.known 8) (.known 8) (.known 8) M2
  obtain ⟨M4, r4⟩ := fk_last M3
  exact ⟨M4, c6 (r1.trans (r2.trans (r3.trans r4)))⟩
theorem ForeignKnown_law : ∀ avs M, M.Whole → okL M.n avs → ShowsArgs M [] avs → ∃ M', C 6 avs M = some (.bool true, M') := by
  intro avs M hM hok h
  simp only [ShowsArgs] at h
  subst h
  exact ForeignKnown_C M
end Go.Proofs.Ytjcakemgghfflaa.M
