/- ForeignCopies. -/
import Derived.Test.YtjcakemgghfflaaFZ
set_option linter.unusedVariables false
set_option linter.unusedSimpArgs false
set_option linter.unnecessarySimpa false
set_option maxRecDepth 100000
namespace Go.Proofs.Ytjcakemgghfflaa.M
open Go.Abs Go.RowKit

section
variable {M0 M M' : Mem} {role : Nat → Rj} {hs : List Nat} {cur : List (Option Nat)} {gs : List Gp} {ds : List Dt} {i h g : Nat} {x : Gp} {d : Dt}
/-- What a handle shows, compared. -/
theorem shown_C (H : GS false KI M0 M role hs cur gs ds) (hi : hs[i]? = some h) (hc : cur[i]? = some (some g)) (hd : ds[g]? = some d) {a : Option (Nat × Nat)} {l : Nat} {c : Cap} {ys : List Int} (hy : M.ints .u8 a l c = some ys) :
    ∃ M' v, C 13 [.ptr (some (h, 0))] M = some (.sl v.1 v.2.1 v.2.2, M') ∧ M.Upto M' ∧ Own1 M' v d.B ∧ C 15 [.sl v.1 v.2.1 v.2.2, .sl a l c] M' = some (.bool (decide (d.B = ys)), M') := by
  obtain ⟨M1, v, e1, u1, o1, f1, z1⟩ := I_bytesF H hi hc hd
  obtain ⟨x, d', hx, hd'⟩ := H.at hc
  rw [hd] at hd'; cases hd'
  obtain ⟨_, _, hp, _⟩ := I_rd H hi hc hx hd
  have hsz := hp.sz
  have := o1.1
  exact ⟨M1, v, e1, u1, o1, EqBytes_C o1.ints (ints_upto hy u1) (by omega)⟩
end
theorem ForeignCopies_C {M : Mem} {a1 : Option (Nat × Nat)} {l1 : Nat} {c1 : Cap} {L : List Deed} {ba : Option (Nat × Nat)} {bl : Nat} {bc : Cap} {ps : List Int} {at_ n arg V : Int} {cl : Bool} (hd : Deeds M a1 l1 c1 L) (hok : ∀ d ∈ L, DeedOk d) (hl : L.length ≤ 1048576) (hb : ∀ d ∈ L, d.2.2.length ≤ 1048576) (hp : PS M ba bl bc ps) (hn : -9223372036854775808 ≤ n ∧ n < 9223372036854775808) :
    ∃ M', C 8 [.sl ba bl bc, .agg [.int .i64 at_, .int .i64 n, .int .u64 arg, .sl a1 l1 c1, .bool cl], .int .u64 V] M = some (.bool true, M') := by
  have hE := p8_0_eq C prog.meth ba bl bc at_ n arg a1 l1 c1 cl V M
  obtain ⟨M1, e1, g1, u1, n1⟩ := alloc_at M ⟨[.int .i64 at_, .int .i64 n, .int .u64 arg, .sl a1 l1 c1, .bool cl], .fixed⟩
  obtain ⟨Mw, cw⟩ := works23_C
  obtain ⟨pl, cc, hpl, hp1⟩ := Cut_C (hp.upto u1)
  have hxl := ints_length hp1.ints
  generalize ps.take 2048 = xs at hp1 hxl
  have G0 : GS false KI M1 M1 (fun _ => .other 0) [] [] [] [] := ⟨Mem.Upto.refl _, rfl, by simp, by simp, rfl, by simp, by simp⟩
  obtain ⟨M2, s, x, role2, c2, u2, H2, F2⟩ := I_new G0 (by simp) hp1.ints hpl
  have H2 : GS false KI M1 M2 role2 [s] [some 0] [x] [⟨xs, 64, 64, 0⟩] := H2
  obtain ⟨M3, a, role3, c3, H3, F3⟩ := I_clone H2 (i := 0) (g := 0) rfl rfl (by simp)
  have H3 : GS false KI M1 M3 role3 [s, a] [some 0, some 0] [x] [⟨xs, 64, 64, 0⟩] := H3
  obtain ⟨M4, b, role4, c4', H4, F4⟩ := I_clone H3 (i := 1) (g := 0) rfl rfl (by simp)
  have H4 : GS false KI M1 M4 role4 [s, a, b] [some 0, some 0, some 0] [x] [⟨xs, 64, 64, 0⟩] := H4
  have c5 : C 28 [.ptr (some (s, 0))] M4 = some (.int .i64 3, M4) := I_count H4 (i := 0) rfl rfl
  simp only [e1] at hE
  rw [cw, Option.bind_some] at hE
  simp only [Option.bind_some, List.getElem?_cons_zero, List.getElem?_cons_succ, int?_int, AVal.bool?, AVal.ptr?, AVal.sl?, AVal.tup?, AVal.agg?, AVal.ifc?, AVal.fn?, AVal.str?, List.head?_cons, List.tail_cons, List.isEmpty_nil, cond_true, cond_false, Option.isNone_some, Option.isNone_none, Bool.not_true, Bool.not_false, decide_true, decide_false, beq_self_eq_true, bne_self_eq_false, Int.reduceBEq, Int.reduceBNe, Int.cast_ofNat_Int] at hE
  rw [cc, Option.bind_some] at hE
  simp only [Option.bind_some, List.getElem?_cons_zero, List.getElem?_cons_succ, int?_int, AVal.bool?, AVal.ptr?, AVal.sl?, AVal.tup?, AVal.agg?, AVal.ifc?, AVal.fn?, AVal.str?, List.head?_cons, List.tail_cons, List.isEmpty_nil, cond_true, cond_false, Option.isNone_some, Option.isNone_none, Bool.not_true, Bool.not_false, decide_true, decide_false, beq_self_eq_true, bne_self_eq_false, Int.reduceBEq, Int.reduceBNe, Int.cast_ofNat_Int] at hE
  rw [c2, Option.bind_some] at hE
  simp only [Option.bind_some, List.getElem?_cons_zero, List.getElem?_cons_succ, int?_int, AVal.bool?, AVal.ptr?, AVal.sl?, AVal.tup?, AVal.agg?, AVal.ifc?, AVal.fn?, AVal.str?, List.head?_cons, List.tail_cons, List.isEmpty_nil, cond_true, cond_false, Option.isNone_some, Option.isNone_none, Bool.not_true, Bool.not_false, decide_true, decide_false, beq_self_eq_true, bne_self_eq_false, Int.reduceBEq, Int.reduceBNe, Int.cast_ofNat_Int, bne_self_eq_false] at hE
  rw [c3, Option.bind_some] at hE
  simp only [Option.bind_some, List.getElem?_cons_zero, List.getElem?_cons_succ, int?_int, AVal.bool?, AVal.ptr?, AVal.sl?, AVal.tup?, AVal.agg?, AVal.ifc?, AVal.fn?, AVal.str?, List.head?_cons, List.tail_cons, List.isEmpty_nil, cond_true, cond_false, Option.isNone_some, Option.isNone_none, Bool.not_true, Bool.not_false, decide_true, decide_false, beq_self_eq_true, bne_self_eq_false, Int.reduceBEq, Int.reduceBNe, Int.cast_ofNat_Int] at hE
  rw [c4', Option.bind_some] at hE
  simp only [Option.bind_some, List.getElem?_cons_zero, List.getElem?_cons_succ, int?_int, AVal.bool?, AVal.ptr?, AVal.sl?, AVal.tup?, AVal.agg?, AVal.ifc?, AVal.fn?, AVal.str?, List.head?_cons, List.tail_cons, List.isEmpty_nil, cond_true, cond_false, Option.isNone_some, Option.isNone_none, Bool.not_true, Bool.not_false, decide_true, decide_false, beq_self_eq_true, bne_self_eq_false, Int.reduceBEq, Int.reduceBNe, Int.cast_ofNat_Int, bne_self_eq_false] at hE
  rw [c5, Option.bind_some] at hE
  simp only [Option.bind_some, List.getElem?_cons_zero, List.getElem?_cons_succ, int?_int, AVal.bool?, AVal.ptr?, AVal.sl?, AVal.tup?, AVal.agg?, AVal.ifc?, AVal.fn?, AVal.str?, List.head?_cons, List.tail_cons, List.isEmpty_nil, cond_true, cond_false, Option.isNone_some, Option.isNone_none, Bool.not_true, Bool.not_false, decide_true, decide_false, beq_self_eq_true, bne_self_eq_false, Int.reduceBEq, Int.reduceBNe, Int.cast_ofNat_Int, bne_self_eq_false] at hE
  have hE1 := p8_1_eq C prog.meth ba pl bc V M.n (some (s, 0)) (some (a, 0)) (some (b, 0)) M4
  have g4 := H4.up.get g1
  obtain ⟨M5, e5, g5, u5, n5⟩ := alloc_at M4 ⟨[.sl a1 l1 c1, .sl none 0 (.known 0), .sl none 0 (.known 0), .int .i64 0, .int .i64 0, .int .u64 0], .fixed⟩
  have H5 := H4.ext u5
  have g5b := u5.get g4
  have hn4 := H4.up.1
  have hp5 : PS M5 ba pl bc xs := hp1.upto H5.up
  -- what is behind the loan
  have rest : ∀ (g5' : Int) (cur' : List (Option Nat)) (gs' : List Gp) (ds' : List Dt) (role' : Nat → Rj) (M6 : Mem) (vv : Int), C 12 [.ptr (some (a, 0)), .agg [.int .i64 at_, .int .i64 n], .ifc (some 35) (.ptr (some (M4.n, 0))), .int .u64 arg] M5 = some (.tup [.int .u64 vv, .int .i64 g5'], M6) → GS false KI M1 M6 role' [s, a, b] cur' gs' ds' → cur'[0]? = some (some 0) → cur'[2]? = some (some 0) → ds'[0]? = some ⟨xs, 64, 64, 0⟩ →
      ∃ M8 role8, p8_1 C prog.meth ba pl bc V M.n (some (s, 0)) (some (a, 0)) (some (b, 0)) M4 = p8_2 C prog.meth ba pl bc V M.n (some (s, 0)) (some (a, 0)) (some (b, 0)) g5' M8 ∧ GS false KI M1 M8 role8 [s, a, b] cur' gs' ds' ∧ M6.Upto M8 := by
    intro g5' cur' gs' ds' role' M6 vv cL H6 h0 h2 hd0
    have hp6 : PS M6 ba pl bc xs := hp1.upto H6.up
    obtain ⟨M7, v7, q1, q2, q3, q4⟩ := shown_C H6 (i := 0) rfl h0 hd0 hp6.ints
    have H7 := H6.ext q2
    obtain ⟨M8, v8, w1, w2, w3, w4⟩ := shown_C H7 (i := 2) rfl h2 hd0 (hp6.upto q2).ints
    have H8 := H7.ext w2
    simp only [ldL_at g4, Option.bind_some, List.getElem?_cons_zero, List.getElem?_cons_succ, int?_int, AVal.bool?, AVal.ptr?, AVal.sl?, AVal.tup?, AVal.agg?, AVal.ifc?, AVal.fn?, AVal.str?, List.head?_cons, List.tail_cons, List.isEmpty_nil, cond_true, cond_false, Option.isNone_some, Option.isNone_none, Bool.not_true, Bool.not_false, decide_true, decide_false, beq_self_eq_true, bne_self_eq_false, Int.reduceBEq, Int.reduceBNe, Int.cast_ofNat_Int, e5, ldI_at g5b] at hE1
    rw [cL, Option.bind_some] at hE1
    simp only [Option.bind_some, List.getElem?_cons_zero, List.getElem?_cons_succ, int?_int, AVal.bool?, AVal.ptr?, AVal.sl?, AVal.tup?, AVal.agg?, AVal.ifc?, AVal.fn?, AVal.str?, List.head?_cons, List.tail_cons, List.isEmpty_nil, cond_true, cond_false, Option.isNone_some, Option.isNone_none, Bool.not_true, Bool.not_false, decide_true, decide_false, beq_self_eq_true, bne_self_eq_false, Int.reduceBEq, Int.reduceBNe, Int.cast_ofNat_Int] at hE1
    rw [q1, Option.bind_some] at hE1
    simp only [Option.bind_some, List.getElem?_cons_zero, List.getElem?_cons_succ, int?_int, AVal.bool?, AVal.ptr?, AVal.sl?, AVal.tup?, AVal.agg?, AVal.ifc?, AVal.fn?, AVal.str?, List.head?_cons, List.tail_cons, List.isEmpty_nil, cond_true, cond_false, Option.isNone_some, Option.isNone_none, Bool.not_true, Bool.not_false, decide_true, decide_false, beq_self_eq_true, bne_self_eq_false, Int.reduceBEq, Int.reduceBNe, Int.cast_ofNat_Int] at hE1
    rw [q4, Option.bind_some] at hE1
    simp only [Option.bind_some, List.getElem?_cons_zero, List.getElem?_cons_succ, int?_int, AVal.bool?, AVal.ptr?, AVal.sl?, AVal.tup?, AVal.agg?, AVal.ifc?, AVal.fn?, AVal.str?, List.head?_cons, List.tail_cons, List.isEmpty_nil, cond_true, cond_false, Option.isNone_some, Option.isNone_none, Bool.not_true, Bool.not_false, decide_true, decide_false, beq_self_eq_true, bne_self_eq_false, Int.reduceBEq, Int.reduceBNe, Int.cast_ofNat_Int, decide_true, Bool.not_true] at hE1
    rw [w1, Option.bind_some] at hE1
    simp only [Option.bind_some, List.getElem?_cons_zero, List.getElem?_cons_succ, int?_int, AVal.bool?, AVal.ptr?, AVal.sl?, AVal.tup?, AVal.agg?, AVal.ifc?, AVal.fn?, AVal.str?, List.head?_cons, List.tail_cons, List.isEmpty_nil, cond_true, cond_false, Option.isNone_some, Option.isNone_none, Bool.not_true, Bool.not_false, decide_true, decide_false, beq_self_eq_true, bne_self_eq_false, Int.reduceBEq, Int.reduceBNe, Int.cast_ofNat_Int] at hE1
    rw [w4, Option.bind_some] at hE1
    simp only [Option.bind_some, List.getElem?_cons_zero, List.getElem?_cons_succ, int?_int, AVal.bool?, AVal.ptr?, AVal.sl?, AVal.tup?, AVal.agg?, AVal.ifc?, AVal.fn?, AVal.str?, List.head?_cons, List.tail_cons, List.isEmpty_nil, cond_true, cond_false, Option.isNone_some, Option.isNone_none, Bool.not_true, Bool.not_false, decide_true, decide_false, beq_self_eq_true, bne_self_eq_false, Int.reduceBEq, Int.reduceBNe, Int.cast_ofNat_Int, decide_true, Bool.not_true] at hE1
    exact ⟨M8, _, hE1, H8, q2.trans w2⟩
  by_cases hin : inR at_ n xs.length
  · obtain ⟨i1, i2, i3, i4⟩ := hin
    obtain ⟨A, rfl⟩ : ∃ m : Nat, at_ = (m : Int) := ⟨at_.toNat, by omega⟩
    obtain ⟨N, rfl⟩ : ∃ m : Nat, n = (m : Int) := ⟨n.toNat, by omega⟩
    obtain ⟨M6, role6, gs6, rv, f, l, ys, cL, H6, k1, k2, k3, k4, k5, k6, k7⟩ := Lend_wild (i := 1) (g := 0) (wo := M4.n) (arg := arg) H5 rfl rfl rfl (at_ := A) (n := N) (by show A + N ≤ xs.length; omega) g5 (extR_ge (Nat.le_refl _)) hn4 (hd.upto u1) hok hl hb
    have eC : oC [some 0, some 0, some 0] 1 1 0 = [some 0, some 1, some 0] := by simp [oC]
    have eG : oG [some 0, some 0, some 0] 1 0 = 1 := by simp [oG]
    have eD : ∀ d : Dt, oD [some 0, some 0, some 0] [d] 0 d = [d, ⟨d.B, 64, 64, 0⟩] := fun d => by simp [oD]
    have eE : ∀ d : Dt, oE [some 0, some 0, some 0] 0 d = ⟨d.B, 64, 64, 0⟩ := fun d => by simp [oE]
    simp only [List.length_singleton, eC, eG, eD, eE] at H6
    have H6 : GS false KI M1 M6 role6 [s, a, b] [some 0, some 1, some 0] gs6 [⟨xs, 64, 64, 0⟩, ⟨xs.take A ++ (ys ++ xs.drop (A + N)), 64, 64, 0⟩] := H6
    have hBl : (xs.take A ++ (ys ++ xs.drop (A + N))).length = xs.length := by simp; omega
    generalize xs.take A ++ (ys ++ xs.drop (A + N)) = B at H6 hBl
    obtain ⟨M8, role8, r1, H8, u8⟩ := rest 0 _ gs6 _ role6 M6 rv cL H6 rfl rfl rfl
    have hE2 := p8_2_eq C prog.meth ba pl bc V M.n (some (s, 0)) (some (a, 0)) (some (b, 0)) 0 M8
    have q1 : C 28 [.ptr (some (s, 0))] M8 = some (.int .i64 2, M8) := I_count H8 (i := 0) rfl rfl
    have q2 : C 28 [.ptr (some (a, 0))] M8 = some (.int .i64 1, M8) := I_count H8 (i := 1) rfl rfl
    simp only [Option.bind_some, List.getElem?_cons_zero, List.getElem?_cons_succ, int?_int, AVal.bool?, AVal.ptr?, AVal.sl?, AVal.tup?, AVal.agg?, AVal.ifc?, AVal.fn?, AVal.str?, List.head?_cons, List.tail_cons, List.isEmpty_nil, cond_true, cond_false, Option.isNone_some, Option.isNone_none, Bool.not_true, Bool.not_false, decide_true, decide_false, beq_self_eq_true, bne_self_eq_false, Int.reduceBEq, Int.reduceBNe, Int.cast_ofNat_Int, bne_self_eq_false] at hE2
    rw [q1, Option.bind_some] at hE2
    simp only [Option.bind_some, List.getElem?_cons_zero, List.getElem?_cons_succ, int?_int, AVal.bool?, AVal.ptr?, AVal.sl?, AVal.tup?, AVal.agg?, AVal.ifc?, AVal.fn?, AVal.str?, List.head?_cons, List.tail_cons, List.isEmpty_nil, cond_true, cond_false, Option.isNone_some, Option.isNone_none, Bool.not_true, Bool.not_false, decide_true, decide_false, beq_self_eq_true, bne_self_eq_false, Int.reduceBEq, Int.reduceBNe, Int.cast_ofNat_Int, bne_self_eq_false] at hE2
    rw [q2, Option.bind_some] at hE2
    simp only [Option.bind_some, List.getElem?_cons_zero, List.getElem?_cons_succ, int?_int, AVal.bool?, AVal.ptr?, AVal.sl?, AVal.tup?, AVal.agg?, AVal.ifc?, AVal.fn?, AVal.str?, List.head?_cons, List.tail_cons, List.isEmpty_nil, cond_true, cond_false, Option.isNone_some, Option.isNone_none, Bool.not_true, Bool.not_false, decide_true, decide_false, beq_self_eq_true, bne_self_eq_false, Int.reduceBEq, Int.reduceBNe, Int.cast_ofNat_Int, bne_self_eq_false] at hE2
    have hE4 := p8_4_eq C prog.meth ba pl bc V (some (s, 0)) (some (a, 0)) (some (b, 0)) M8
    obtain ⟨M9, left, w1, w2, w3, w4, w5⟩ := I_bytesF H8 (i := 1) rfl rfl rfl
    have H9 := H8.ext w2
    rw [w1, Option.bind_some] at hE4
    simp only [Option.bind_some, List.getElem?_cons_zero, List.getElem?_cons_succ, int?_int, AVal.bool?, AVal.ptr?, AVal.sl?, AVal.tup?, AVal.agg?, AVal.ifc?, AVal.fn?, AVal.str?, List.head?_cons, List.tail_cons, List.isEmpty_nil, cond_true, cond_false, Option.isNone_some, Option.isNone_none, Bool.not_true, Bool.not_false, decide_true, decide_false, beq_self_eq_true, bne_self_eq_false, Int.reduceBEq, Int.reduceBNe, Int.cast_ofNat_Int] at hE4
    -- the end
    have fin : ∀ (cur' : List (Option Nat)) (gs' : List Gp) (ds' : List Dt) (role' : Nat → Rj) (Mx : Mem), GS false KI M1 Mx role' [s, a, b] cur' gs' ds' → cur'[1]? = some (some 1) → cur'[2]? = some (some 0) → ds'[0]? = some ⟨xs, 64, 64, 0⟩ → ds'[1]? = some ⟨B, 64, 64, 0⟩ → Own1 Mx left B →
        ∃ M', p8_5 C prog.meth ba pl bc (some (a, 0)) (some (b, 0)) left.1 left.2.1 left.2.2 Mx = some (.bool true, M') := by
      intro cur' gs' ds' role' Mx Hx h1 h2 hd0 hd1 ho
      have hE5 := p8_5_eq C prog.meth ba pl bc (some (a, 0)) (some (b, 0)) left.1 left.2.1 left.2.2 Mx
      obtain ⟨My, vy, y1, y2, y3, y4⟩ := shown_C Hx (i := 1) rfl h1 hd1 ho.ints
      have Hy := Hx.ext y2
      obtain ⟨Mz, vz, z1, z2, z3, z4⟩ := shown_C Hy (i := 2) rfl h2 hd0 (hp1.upto Hy.up).ints
      rw [y1, Option.bind_some] at hE5
      simp only [Option.bind_some, List.getElem?_cons_zero, List.getElem?_cons_succ, int?_int, AVal.bool?, AVal.ptr?, AVal.sl?, AVal.tup?, AVal.agg?, AVal.ifc?, AVal.fn?, AVal.str?, List.head?_cons, List.tail_cons, List.isEmpty_nil, cond_true, cond_false, Option.isNone_some, Option.isNone_none, Bool.not_true, Bool.not_false, decide_true, decide_false, beq_self_eq_true, bne_self_eq_false, Int.reduceBEq, Int.reduceBNe, Int.cast_ofNat_Int] at hE5
      rw [y4, Option.bind_some] at hE5
      simp only [Option.bind_some, List.getElem?_cons_zero, List.getElem?_cons_succ, int?_int, AVal.bool?, AVal.ptr?, AVal.sl?, AVal.tup?, AVal.agg?, AVal.ifc?, AVal.fn?, AVal.str?, List.head?_cons, List.tail_cons, List.isEmpty_nil, cond_true, cond_false, Option.isNone_some, Option.isNone_none, Bool.not_true, Bool.not_false, decide_true, decide_false, beq_self_eq_true, bne_self_eq_false, Int.reduceBEq, Int.reduceBNe, Int.cast_ofNat_Int, decide_true] at hE5
      rw [z1, Option.bind_some] at hE5
      simp only [Option.bind_some, List.getElem?_cons_zero, List.getElem?_cons_succ, int?_int, AVal.bool?, AVal.ptr?, AVal.sl?, AVal.tup?, AVal.agg?, AVal.ifc?, AVal.fn?, AVal.str?, List.head?_cons, List.tail_cons, List.isEmpty_nil, cond_true, cond_false, Option.isNone_some, Option.isNone_none, Bool.not_true, Bool.not_false, decide_true, decide_false, beq_self_eq_true, bne_self_eq_false, Int.reduceBEq, Int.reduceBNe, Int.cast_ofNat_Int] at hE5
      rw [z4, Option.bind_some] at hE5
      simp only [Option.bind_some, List.getElem?_cons_zero, List.getElem?_cons_succ, int?_int, AVal.bool?, AVal.ptr?, AVal.sl?, AVal.tup?, AVal.agg?, AVal.ifc?, AVal.fn?, AVal.str?, List.head?_cons, List.tail_cons, List.isEmpty_nil, cond_true, cond_false, Option.isNone_some, Option.isNone_none, Bool.not_true, Bool.not_false, decide_true, decide_false, beq_self_eq_true, bne_self_eq_false, Int.reduceBEq, Int.reduceBNe, Int.cast_ofNat_Int, decide_true] at hE5
      exact ⟨Mz, hE5⟩
    by_cases h0 : ((pl : Nat) : Int) > 0
    · simp only [h0, decide_true, cond_true] at hE4
      have hask : askE xs.length 0 1 = 0 := by
        unfold askE
        rw [if_neg (by decide), if_neg (by decide), if_neg (by decide), if_neg (by omega)]
      rcases I_store H9 (i := 0) (g := 0) rfl rfl rfl 0 1 V with ⟨e, _⟩ | ⟨_, M10, role10, gs10, s1, H10, F10⟩
      · exact absurd hask e
      · have eC : oC [some 0, some 1, some 0] 2 0 0 = [some 2, some 1, some 0] := by simp [oC]
        have eG : oG [some 0, some 1, some 0] 2 0 = 2 := by simp [oG]
        have eD : ∀ d e : Dt, oD [some 0, some 1, some 0] [d, e] 0 d = [d, e, ⟨d.B, 64, 64, 0⟩] := fun d e => by simp [oD]
        simp only [List.length_cons, List.length_nil, Nat.zero_add, Nat.reduceAdd, eC, eG, eD] at H10
        rw [s1, Option.bind_some] at hE4
        simp only [Option.bind_some, List.getElem?_cons_zero, List.getElem?_cons_succ, int?_int, AVal.bool?, AVal.ptr?, AVal.sl?, AVal.tup?, AVal.agg?, AVal.ifc?, AVal.fn?, AVal.str?, List.head?_cons, List.tail_cons, List.isEmpty_nil, cond_true, cond_false, Option.isNone_some, Option.isNone_none, Bool.not_true, Bool.not_false, decide_true, decide_false, beq_self_eq_true, bne_self_eq_false, Int.reduceBEq, Int.reduceBNe, Int.cast_ofNat_Int, bne_self_eq_false] at hE4
        have ho : Own1 M10 left B := w3.same (fun q hq => F10.get q (w3.lt q hq) (by rw [extR_ge (w4 q hq)]; exact nofun))
        obtain ⟨M', r2⟩ := fin _ gs10 _ role10 M10 H10 rfl rfl rfl rfl ho
        exact ⟨M', c8 (hE.trans (r1.trans (hE2.trans (hE4.trans r2))))⟩
    · simp only [h0, decide_false, cond_false] at hE4
      obtain ⟨M', r2⟩ := fin _ gs6 _ _ M9 H9 rfl rfl rfl rfl w3
      exact ⟨M', c8 (hE.trans (r1.trans (hE2.trans (hE4.trans r2))))⟩
  · obtain ⟨M6, cL, u6⟩ := Lend_out (i := 1) (g := 0) (t := 35) (v := .ptr (some (M4.n, 0))) (arg := arg) H5 rfl rfl rfl hn hin
    have H6 := H5.ext u6
    obtain ⟨M8, role8, r1, H8, u8⟩ := rest 20 _ _ _ _ M6 0 cL H6 rfl rfl rfl
    have hE2 := p8_2_eq C prog.meth ba pl bc V M.n (some (s, 0)) (some (a, 0)) (some (b, 0)) 20 M8
    have hE3 := p8_3_eq C prog.meth ba pl bc M.n (some (s, 0)) 20 M8
    have q1 : C 28 [.ptr (some (s, 0))] M8 = some (.int .i64 3, M8) := I_count H8 (i := 0) rfl rfl
    obtain ⟨Mi, ci⟩ := within_C (at_ := at_) (len := pl) hn (by omega)
    have g8 := H8.up.get g1
    rw [hxl] at hin
    have h20 : ((20 : Int) != 0) = true := by decide
    simp only [h20, cond_true] at hE2
    simp only [beq_self_eq_true, cond_true, ldI_at g8, Option.bind_some, List.getElem?_cons_zero, List.getElem?_cons_succ, int?_int, AVal.bool?, AVal.ptr?, AVal.sl?, AVal.tup?, AVal.agg?, AVal.ifc?, AVal.fn?, AVal.str?, List.head?_cons, List.tail_cons, List.isEmpty_nil, cond_true, cond_false, Option.isNone_some, Option.isNone_none, Bool.not_true, Bool.not_false, decide_true, decide_false, beq_self_eq_true, bne_self_eq_false, Int.reduceBEq, Int.reduceBNe, Int.cast_ofNat_Int] at hE3
    rw [ci, Option.bind_some] at hE3
    simp only [Option.bind_some, List.getElem?_cons_zero, List.getElem?_cons_succ, int?_int, AVal.bool?, AVal.ptr?, AVal.sl?, AVal.tup?, AVal.agg?, AVal.ifc?, AVal.fn?, AVal.str?, List.head?_cons, List.tail_cons, List.isEmpty_nil, cond_true, cond_false, Option.isNone_some, Option.isNone_none, Bool.not_true, Bool.not_false, decide_true, decide_false, beq_self_eq_true, bne_self_eq_false, Int.reduceBEq, Int.reduceBNe, Int.cast_ofNat_Int, hin, decide_false, Bool.not_false] at hE3
    rw [q1, Option.bind_some] at hE3
    simp only [Option.bind_some, List.getElem?_cons_zero, List.getElem?_cons_succ, int?_int, AVal.bool?, AVal.ptr?, AVal.sl?, AVal.tup?, AVal.agg?, AVal.ifc?, AVal.fn?, AVal.str?, List.head?_cons, List.tail_cons, List.isEmpty_nil, cond_true, cond_false, Option.isNone_some, Option.isNone_none, Bool.not_true, Bool.not_false, decide_true, decide_false, beq_self_eq_true, bne_self_eq_false, Int.reduceBEq, Int.reduceBNe, Int.cast_ofNat_Int, beq_self_eq_true] at hE3
    exact ⟨M8, c8 (hE.trans (r1.trans (hE2.trans hE3)))⟩
theorem ForeignCopies_law : ∀ avs M, M.Whole → okL M.n avs → ShowsArgs M [(false, [.sl 1 [.int .u8]]), (true, [.int .i64, .int .i64, .int .u64, .sl 40 [.int .u8, .int .i64, .sl 1 [.int .u8]], .bool]), (false, [.int .u64])] avs → (∀ L, L = 1048576 → RoNew L Mem.empty M) → ∃ M', C 8 avs M = some (.bool true, M') := by
  intro avs M hM hok h hq
  simp only [ShowsArgs, ShowsArg] at h
  obtain ⟨v, _, rfl, ⟨t, ht, hv⟩, w, _, rfl, ⟨ws, rfl, hw⟩, z, _, rfl, ⟨t2, ht2, hz⟩, rfl⟩ := h
  obtain rfl : t = .sl 1 [.int .u8] := by simpa using ht.symm
  obtain rfl : t2 = .int .u64 := by simpa using ht2.symm
  obtain ⟨a, l, c, xs, rfl, hx, hl, hwf⟩ := hv.ints
  simp only [ShowsR] at hw
  obtain ⟨v0, w0, rfl, hb0, v1, w1, rfl, hb1, v2, w2, rfl, hb2, v3, w3, rfl, hb3, v4, w4, rfl, hb4, rfl⟩ := hw
  simp only [Shows] at hb0 hb1 hb2 hb4 hz
  obtain ⟨at_, rfl, _⟩ := hb0
  obtain ⟨n, rfl, hn⟩ := hb1
  obtain ⟨arg, rfl, _⟩ := hb2
  obtain ⟨cl, rfl⟩ := hb4
  obtain ⟨V, rfl, _⟩ := hz
  obtain ⟨a1, l1, c1, rfl, hl1⟩ := hb3.form
  have hl1' := rows_le hb3 (hq _ rfl) (by simp)
  obtain ⟨L, hd, hall⟩ := deeds_of (fun i hi => hb3.row hi) (hq _ rfl)
  have hlen := hd.len
  exact ForeignCopies_C hd (fun d hd => (hall d hd).1) (by omega) (fun d hd => (hall d hd).2) (PS.arg hv hx) (i64_bounds hn)
end Go.Proofs.Ytjcakemgghfflaa.M
