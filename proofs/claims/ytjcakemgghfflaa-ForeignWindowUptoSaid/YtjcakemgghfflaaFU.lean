/- ForeignSame. -/
import Derived.Test.YtjcakemgghfflaaFL
import Derived.Test.YtjcakemgghfflaaFT
set_option linter.unusedVariables false
set_option linter.unusedSimpArgs false
set_option linter.unnecessarySimpa false
set_option maxRecDepth 100000
namespace Go.Proofs.Ytjcakemgghfflaa.M
open Go.Abs Go.RowKit

instance (a n : Int) (l : Nat) : Decidable (inR a n l) := by unfold inR; infer_instance
theorem within_C {at_ n : Int} {len : Nat} (hb : -9223372036854775808 ≤ n ∧ n < 9223372036854775808) (hl : len ≤ 4096) : ∃ M', C 14 [.agg [.int .i64 at_, .int .i64 n], .int .i64 (len : Int)] Mem.empty = some (.bool (decide (inR at_ n len)), M') := by
  have hE := p14_0_eq C prog.meth at_ n (len : Int) Mem.empty
  obtain ⟨M1, e1, g1, u1, n1⟩ := alloc_at Mem.empty ⟨[.int .i64 at_, .int .i64 n], .fixed⟩
  simp only [e1, ldI_at g1, Option.bind_some, List.getElem?_cons_zero, List.getElem?_cons_succ, int?_int, AVal.bool?, AVal.ptr?, AVal.sl?, AVal.tup?, AVal.agg?, AVal.ifc?, AVal.fn?, AVal.str?, List.head?_cons, List.tail_cons, List.isEmpty_nil, cond_true, cond_false, Option.isNone_some, Option.isNone_none, Bool.not_true, Bool.not_false, decide_true, decide_false, beq_self_eq_true, bne_self_eq_false, Int.reduceBEq, Int.reduceBNe, Int.cast_ofNat_Int] at hE
  by_cases k1 : at_ ≥ 0
  · by_cases k2 : n ≥ 0
    · by_cases k3 : at_ ≤ (len : Int)
      · have hw : IntKind.wrap .i64 ((len : Int) - at_) = (len : Int) - at_ := wrap_i64 (by omega) (by omega)
        simp only [k1, k2, k3, hw, decide_true, cond_true] at hE
        refine ⟨M1, (c14 hE).trans ?_⟩
        have : decide (n ≤ (len : Int) - at_) = decide (inR at_ n len) := by
          unfold inR
          by_cases h : n ≤ (len : Int) - at_
          · simp [h, k1, k2, k3]
          · simp [h]
        rw [this]
      · simp only [k1, k2, k3, decide_true, decide_false, cond_true, cond_false] at hE
        exact ⟨M1, by rw [decide_eq_false (fun h => k3 h.2.2.1)]; exact c14 hE⟩
    · simp only [k1, k2, decide_true, decide_false, cond_true, cond_false] at hE
      exact ⟨M1, by rw [decide_eq_false (fun h => k2 h.2.1)]; exact c14 hE⟩
  · simp only [k1, decide_false, cond_false] at hE
    exact ⟨M1, by rw [decide_eq_false (fun h => k1 h.1)]; exact c14 hE⟩
section
variable {M0 M : Mem} {role : Nat → Rj} {hs : List Nat} {cur : List (Option Nat)} {gs : List Gp} {ds : List Dt} {i h g : Nat} {x : Gp} {d : Dt}
theorem I_bytesF (H : GS false KI M0 M role hs cur gs ds) (hi : hs[i]? = some h) (hc : cur[i]? = some (some g)) (hd : ds[g]? = some d) : ∃ M' v, C 13 [.ptr (some (h, 0))] M = some (.sl v.1 v.2.1 v.2.2, M') ∧ M.Upto M' ∧ Own1 M' v d.B ∧ (∀ o ∈ fpS v, M.n ≤ o) ∧ (v.2.1 = 0 → v.2.2 = .known 0) := by
  have hE := p13_0_eq C prog.meth (some (h, 0)) M
  obtain ⟨x, d', hx, hd'⟩ := H.at hc
  rw [hd] at hd'; cases hd'
  obtain ⟨o, ho, hp, gh, gS, t⟩ := I_rd H hi hc hx hd
  obtain ⟨M', v, c1, u1, o1, f1, z1⟩ := PBytes_F hp
  simp only [Option.bind_some, List.getElem?_cons_zero, List.getElem?_cons_succ, int?_int, AVal.bool?, AVal.ptr?, AVal.sl?, AVal.tup?, AVal.agg?, AVal.ifc?, AVal.fn?, AVal.str?, List.head?_cons, List.tail_cons, List.isEmpty_nil, cond_true, cond_false, Option.isNone_some, Option.isNone_none, Bool.not_true, Bool.not_false, decide_true, decide_false, beq_self_eq_true, bne_self_eq_false, Int.reduceBEq, Int.reduceBNe, Int.cast_ofNat_Int, t, Nat.zero_add, ldP_at gh, ldP_at gS, c1] at hE
  exact ⟨M', v, c13 hE, u1, o1, f1, z1⟩
end
theorem Own1.known {M : Mem} {v : SlV} {xs : List Int} (h : Own1 M v xs) : M.ints .u8 v.1 v.2.1 (.known v.2.1) = some xs := by
  have := h.ints
  by_cases h0 : 0 < v.2.1
  · obtain ⟨o, g1, g2, g3⟩ := h.2 h0
    rw [g1] at this ⊢
    rw [g2] at this
    exact this
  · have hw0 : v.2.1 = 0 := by omega
    rw [hw0] at this ⊢
    exact this
section
variable {Mb : Mem} {a1 : Option (Nat × Nat)} {l1 : Nat} {c1 : Cap} {L : List Deed} {xs : List Int}
theorem same_loop {bx h N0 N1 : Nat} {at_ n : Nat} {arg : Int} {cl : Bool} (hbx : Mb.get bx = some ⟨[.int .i64 (at_ : Int), .int .i64 (n : Int), .int .u64 arg, .sl a1 l1 c1, .bool cl], .fixed⟩) (hd : Deeds Mb a1 l1 c1 L) (hok : ∀ d ∈ L, DeedOk d) (hl : L.length ≤ 1048576) (hb : ∀ d ∈ L, d.2.2.length ≤ 1048576) (hle : at_ + n ≤ xs.length) (hxl : xs.length ≤ 2048)
    {xa : Option (Nat × Nat)} {xc : Cap} {sa : Option (Nat × Nat)} {sl : Nat} {sc : Cap} {rows : List RwD} :
    ∀ (d k : Nat) (M : Mem) (role : Nat → Rj) (gs : List Gp) (wa : Option (Nat × Nat)) (wl : Nat) (wc : Cap) (ws : List Int) (A T mv : Nat), k + d = 3 → GS false KI Mb M role [h] [some 0] gs [⟨xs.take at_ ++ (ws ++ xs.drop (at_ + n)), A, T, mv⟩] → (∀ y, N0 ≤ y → y < N1 → role y = .other 0) → OD N0 N1 M sa sl sc rows L → ws.length = n → M.ints .u8 wa wl wc = some ws →
      ∃ M', p5_2 C prog.meth xa xs.length xc bx (some (h, 0)) (some 88) (.agg [.sl sa sl sc]) wa wl wc (k : Int) M = some (.bool true, M') := by
  intro d
  induction d with
  | zero =>
    intro k M role gs wa wl wc ws A T mv hk H hro hO hwn hw
    have hE := p5_2_eq C prog.meth xa xs.length xc bx (some (h, 0)) (some 88) (.agg [.sl sa sl sc]) wa wl wc (k : Int) M
    have q : ¬ ((k : Int) < 3) := by omega
    simp only [q, decide_false, cond_false] at hE
    exact ⟨M, hE⟩
  | succ d ih =>
    intro k M role gs wa wl wc ws A T mv hk H hro hO hwn hw
    have hE := p5_2_eq C prog.meth xa xs.length xc bx (some (h, 0)) (some 88) (.agg [.sl sa sl sc]) wa wl wc (k : Int) M
    have q : ((k : Int) < 3) := by omega
    have hwi : IntKind.wrap .i64 ((k : Int) + 1) = ((k + 1 : Nat) : Int) := by rw [wrap_i64 (by omega) (by omega)]; rfl
    have hwi2 : IntKind.wrap .i64 ((at_ : Int) + (n : Int)) = ((at_ + n : Nat) : Int) := by rw [wrap_i64 (by omega) (by omega)]; omega
    have hwl := ints_length hw
    have htop := hO.top
    have g0 := H.up.get hbx
    -- what Shown tells
    obtain ⟨M1, w, c2, u1, o1, f1⟩ := Shown_C (M := M) (arg := arg) (fun M2 o hu ho => hd.below (H.up.trans hu) (by have := H.up.1; omega)) hok hl hb hw (by omega)
    have H1 := H.ext u1
    have g1 := H1.up.get hbx
    have hB : (xs.take at_ ++ (ws ++ xs.drop (at_ + n))).length = xs.length := by simp; omega
    have hBw : ((xs.take at_ ++ (ws ++ xs.drop (at_ + n))).drop at_).take n = ws := by
      rw [List.drop_append_of_le_length (by simp; omega), List.drop_eq_nil_of_le (by simp; omega), List.nil_append, List.take_left' hwn]
    -- it is lent
    obtain ⟨M2, role2, gs2, c3, H2, F2⟩ := Lend_script (i := 0) (g := 0) (arg := arg) (at_ := at_) (n := n) H1 rfl rfl rfl (by show _ ≤ List.length (xs.take at_ ++ (ws ++ xs.drop (at_ + n))); omega) (hO.upto u1) (fun y h0 h1 => by rw [extR_lt (by omega)]; exact hro y h0 h1) hok hl hb
    have eC : oC [some 0] 1 0 0 = [some 0] := by simp [oC]
    have eG : oG [some 0] 1 0 = 0 := by simp [oG]
    have eD : ∀ d : Dt, oD [some 0] [d] 0 d = [d] := fun d => by simp [oD]
    have eE : ∀ d : Dt, oE [some 0] 0 d = d := fun d => by simp [oE]
    simp only [List.length_singleton, eC, eG, eD, eE, List.set_cons_zero, hBw] at H2 c3
    have hfs := fold_shown L ⟨ws, [], false, 0, arg⟩ (Nat.zero_le _)
    have hys : (L.foldl ScS.deed ⟨ws, [], false, 0, arg⟩).shown.length = n := hfs.trans hwn
    generalize hy : (L.foldl ScS.deed ⟨ws, [], false, 0, arg⟩).shown = ys at H2 hys o1
    have e1 : (xs.take at_ ++ (ws ++ xs.drop (at_ + n))).take at_ = xs.take at_ := by
      rw [List.take_append_of_le_length (by simp; omega), List.take_take, Nat.min_self]
    have e2 : (xs.take at_ ++ (ws ++ xs.drop (at_ + n))).drop (at_ + n) = xs.drop (at_ + n) := by
      rw [← List.append_assoc]
      exact List.drop_left' (by simp; omega)
    rw [e1, e2] at H2
    have g2 := H2.up.get hbx
    obtain ⟨M3, v, c4', u3, o3, f3, z3⟩ := I_bytesF (i := 0) (g := 0) H2 rfl rfl rfl
    have H3 := H2.ext u3
    have g3 := H3.up.get hbx
    have hvl := o3.1
    have hB2 : (xs.take at_ ++ (ys ++ xs.drop (at_ + n))).length = xs.length := by simp; omega
    have hvl2 : v.2.1 = xs.length := by rw [← hB2]; exact hvl.symm
    have hBy : ((xs.take at_ ++ (ys ++ xs.drop (at_ + n))).drop at_).take n = ys := by
      rw [List.drop_append_of_le_length (by simp; omega), List.drop_eq_nil_of_le (by simp; omega), List.nil_append, List.take_left' hys]
    obtain ⟨a2, c2', s1, s2⟩ := (PS.own o3 z3).sub (kl := .i64) (kh := .i64) (i := at_) (n := n) (by omega)
    have s2 : M3.ints .u8 a2 n c2' = some ys := by rw [← hBy]; exact s2
    have hO2 : OD N0 N1 M2 sa sl sc rows L := (hO.upto u1).keep F2.n (fun y h0 h1 => F2.get y (by have := u1.1; omega) (by rw [extR_lt (by omega), hro y h0 h1]; exact nofun))
    have o2 : Own1 M2 w ys := o1.same (fun o ho => F2.get o (o1.lt o ho) (by rw [extR_ge (f1 o ho)]; exact nofun))
    have o1' := (o2.upto u3).known
    have c5 := EqBytes_C (M := M3) s2 o1' (by omega)
    have hlenne : (((v.2.1 : Nat) : Int) != ((xs.length : Nat) : Int)) = false := by rw [hvl2]; simp
    simp only [q, decide_true, cond_true, ldI_at g0, ldL_at g0, Option.bind_some, List.getElem?_cons_zero, List.getElem?_cons_succ, int?_int, AVal.bool?, AVal.ptr?, AVal.sl?, AVal.tup?, AVal.agg?, AVal.ifc?, AVal.fn?, AVal.str?, List.head?_cons, List.tail_cons, List.isEmpty_nil, cond_true, cond_false, Option.isNone_some, Option.isNone_none, Bool.not_true, Bool.not_false, decide_true, decide_false, beq_self_eq_true, bne_self_eq_false, Int.reduceBEq, Int.reduceBNe, Int.cast_ofNat_Int] at hE
    rw [c2, Option.bind_some] at hE
    simp only [Option.bind_some, List.getElem?_cons_zero, List.getElem?_cons_succ, int?_int, AVal.bool?, AVal.ptr?, AVal.sl?, AVal.tup?, AVal.agg?, AVal.ifc?, AVal.fn?, AVal.str?, List.head?_cons, List.tail_cons, List.isEmpty_nil, cond_true, cond_false, Option.isNone_some, Option.isNone_none, Bool.not_true, Bool.not_false, decide_true, decide_false, beq_self_eq_true, bne_self_eq_false, Int.reduceBEq, Int.reduceBNe, Int.cast_ofNat_Int, ldI_at g1] at hE
    rw [c3, Option.bind_some] at hE
    simp only [Option.bind_some, List.getElem?_cons_zero, List.getElem?_cons_succ, int?_int, AVal.bool?, AVal.ptr?, AVal.sl?, AVal.tup?, AVal.agg?, AVal.ifc?, AVal.fn?, AVal.str?, List.head?_cons, List.tail_cons, List.isEmpty_nil, cond_true, cond_false, Option.isNone_some, Option.isNone_none, Bool.not_true, Bool.not_false, decide_true, decide_false, beq_self_eq_true, bne_self_eq_false, Int.reduceBEq, Int.reduceBNe, Int.cast_ofNat_Int] at hE
    rw [c4', Option.bind_some] at hE
    simp only [Option.bind_some, List.getElem?_cons_zero, List.getElem?_cons_succ, int?_int, AVal.bool?, AVal.ptr?, AVal.sl?, AVal.tup?, AVal.agg?, AVal.ifc?, AVal.fn?, AVal.str?, List.head?_cons, List.tail_cons, List.isEmpty_nil, cond_true, cond_false, Option.isNone_some, Option.isNone_none, Bool.not_true, Bool.not_false, decide_true, decide_false, beq_self_eq_true, bne_self_eq_false, Int.reduceBEq, Int.reduceBNe, Int.cast_ofNat_Int, bne_self_eq_false, hlenne, ldI_at g3, hwi2] at hE
    rw [s1, c5, Option.bind_some] at hE
    simp only [Option.bind_some, List.getElem?_cons_zero, List.getElem?_cons_succ, int?_int, AVal.bool?, AVal.ptr?, AVal.sl?, AVal.tup?, AVal.agg?, AVal.ifc?, AVal.fn?, AVal.str?, List.head?_cons, List.tail_cons, List.isEmpty_nil, cond_true, cond_false, Option.isNone_some, Option.isNone_none, Bool.not_true, Bool.not_false, decide_true, decide_false, beq_self_eq_true, bne_self_eq_false, Int.reduceBEq, Int.reduceBNe, Int.cast_ofNat_Int, decide_true, Bool.not_true, hwi] at hE
    obtain ⟨M', r⟩ := ih (k + 1) M3 _ gs2 w.1 w.2.1 (.known w.2.1) ys A T mv (by omega) H3 (fun y h0 h1 => by
      have hn1 := u1.1
      have hn2 := F2.n
      rw [extR_lt (by omega), F2.rl y (by omega), extR_lt (by omega)]; exact hro y h0 h1) (hO2.upto u3) hys o1'
    exact ⟨M', hE.trans r⟩
theorem ForeignSame_C {M : Mem} {ba : Option (Nat × Nat)} {bl : Nat} {bc : Cap} {ps : List Int} {at_ n arg : Int} {cl : Bool} (hd : Deeds M a1 l1 c1 L) (hok : ∀ d ∈ L, DeedOk d) (hl : L.length ≤ 1048576) (hb : ∀ d ∈ L, d.2.2.length ≤ 1048576) (hp : PS M ba bl bc ps) (hn : -9223372036854775808 ≤ n ∧ n < 9223372036854775808) :
    ∃ M', C 5 [.sl ba bl bc, .agg [.int .i64 at_, .int .i64 n, .int .u64 arg, .sl a1 l1 c1, .bool cl]] M = some (.bool true, M') := by
  have hE := p5_0_eq C prog.meth ba bl bc at_ n arg a1 l1 c1 cl M
  obtain ⟨M1, e1, g1, u1, n1⟩ := alloc_at M ⟨[.int .i64 at_, .int .i64 n, .int .u64 arg, .sl a1 l1 c1, .bool cl], .fixed⟩
  obtain ⟨Mw, cw⟩ := works23_C
  obtain ⟨pl, cc, hpl, hp1⟩ := Cut_C (hp.upto u1)
  have hxl := ints_length hp1.ints
  generalize ps.take 2048 = xs at hp1 hxl
  have G0 : GS false KI M1 M1 (fun _ => .other 0) [] [] [] [] := ⟨Mem.Upto.refl _, rfl, by simp, by simp, rfl, by simp, by simp⟩
  obtain ⟨M2, h, x, role2, c2, u2, H2, F2⟩ := I_new G0 (by simp) hp1.ints hpl
  have H2 : GS false KI M1 M2 role2 [h] [some 0] [x] [⟨xs, 64, 64, 0⟩] := H2
  simp only [e1] at hE
  rw [cw, Option.bind_some] at hE
  simp only [Option.bind_some, List.getElem?_cons_zero, List.getElem?_cons_succ, int?_int, AVal.bool?, AVal.ptr?, AVal.sl?, AVal.tup?, AVal.agg?, AVal.ifc?, AVal.fn?, AVal.str?, List.head?_cons, List.tail_cons, List.isEmpty_nil, cond_true, cond_false, Option.isNone_some, Option.isNone_none, Bool.not_true, Bool.not_false, decide_true, decide_false, beq_self_eq_true, bne_self_eq_false, Int.reduceBEq, Int.reduceBNe, Int.cast_ofNat_Int] at hE
  rw [cc, Option.bind_some] at hE
  simp only [Option.bind_some, List.getElem?_cons_zero, List.getElem?_cons_succ, int?_int, AVal.bool?, AVal.ptr?, AVal.sl?, AVal.tup?, AVal.agg?, AVal.ifc?, AVal.fn?, AVal.str?, List.head?_cons, List.tail_cons, List.isEmpty_nil, cond_true, cond_false, Option.isNone_some, Option.isNone_none, Bool.not_true, Bool.not_false, decide_true, decide_false, beq_self_eq_true, bne_self_eq_false, Int.reduceBEq, Int.reduceBNe, Int.cast_ofNat_Int] at hE
  rw [c2, Option.bind_some] at hE
  simp only [Option.bind_some, List.getElem?_cons_zero, List.getElem?_cons_succ, int?_int, AVal.bool?, AVal.ptr?, AVal.sl?, AVal.tup?, AVal.agg?, AVal.ifc?, AVal.fn?, AVal.str?, List.head?_cons, List.tail_cons, List.isEmpty_nil, cond_true, cond_false, Option.isNone_some, Option.isNone_none, Bool.not_true, Bool.not_false, decide_true, decide_false, beq_self_eq_true, bne_self_eq_false, Int.reduceBEq, Int.reduceBNe, Int.cast_ofNat_Int, bne_self_eq_false] at hE
  have g2 := u2.get g1
  obtain ⟨Mi, ci⟩ := within_C (at_ := at_) (len := pl) hn (by omega)
  simp only [ldI_at g2, Option.bind_some, List.getElem?_cons_zero, List.getElem?_cons_succ, int?_int, AVal.bool?, AVal.ptr?, AVal.sl?, AVal.tup?, AVal.agg?, AVal.ifc?, AVal.fn?, AVal.str?, List.head?_cons, List.tail_cons, List.isEmpty_nil, cond_true, cond_false, Option.isNone_some, Option.isNone_none, Bool.not_true, Bool.not_false, decide_true, decide_false, beq_self_eq_true, bne_self_eq_false, Int.reduceBEq, Int.reduceBNe, Int.cast_ofNat_Int] at hE
  rw [ci, Option.bind_some] at hE
  by_cases hin : inR at_ n pl
  rotate_left
  · simp only [hin, decide_false, Option.bind_some, List.getElem?_cons_zero, List.getElem?_cons_succ, int?_int, AVal.bool?, AVal.ptr?, AVal.sl?, AVal.tup?, AVal.agg?, AVal.ifc?, AVal.fn?, AVal.str?, List.head?_cons, List.tail_cons, List.isEmpty_nil, cond_true, cond_false, Option.isNone_some, Option.isNone_none, Bool.not_true, Bool.not_false, decide_true, decide_false, beq_self_eq_true, bne_self_eq_false, Int.reduceBEq, Int.reduceBNe, Int.cast_ofNat_Int] at hE
    exact ⟨M2, c5 hE⟩
  simp only [hin, decide_true, Option.bind_some, List.getElem?_cons_zero, List.getElem?_cons_succ, int?_int, AVal.bool?, AVal.ptr?, AVal.sl?, AVal.tup?, AVal.agg?, AVal.ifc?, AVal.fn?, AVal.str?, List.head?_cons, List.tail_cons, List.isEmpty_nil, cond_true, cond_false, Option.isNone_some, Option.isNone_none, Bool.not_true, Bool.not_false, decide_true, decide_false, beq_self_eq_true, bne_self_eq_false, Int.reduceBEq, Int.reduceBNe, Int.cast_ofNat_Int] at hE
  obtain ⟨i1, i2, i3, i4⟩ := hin
  obtain ⟨A, rfl⟩ : ∃ m : Nat, at_ = (m : Int) := ⟨at_.toNat, by omega⟩
  obtain ⟨N, rfl⟩ : ∃ m : Nat, n = (m : Int) := ⟨n.toNat, by omega⟩
  have hE1 := p5_1_eq C prog.meth ba pl bc M.n (some (h, 0)) M2
  obtain ⟨M3, sa, sl, sc, rows, c3, u3, hO⟩ := Script_C (hd.upto (u1.trans u2)) hok (by omega)
  have g3 := u3.get g2
  obtain ⟨a2, c2', s1, s2⟩ := (hp1.upto (u2.trans u3)).sub (kl := .i64) (kh := .i64) (i := A) (n := N) (by omega)
  have hs2 := ints_length s2
  obtain ⟨M4, w, c4', u4, o4, f4, z4⟩ := CopyBytes_F s2 (by omega)
  have hwi2 : IntKind.wrap .i64 ((A : Int) + (N : Int)) = ((A + N : Nat) : Int) := by rw [wrap_i64 (by omega) (by omega)]; omega
  simp only [ldL_at g2, Option.bind_some, List.getElem?_cons_zero, List.getElem?_cons_succ, int?_int, AVal.bool?, AVal.ptr?, AVal.sl?, AVal.tup?, AVal.agg?, AVal.ifc?, AVal.fn?, AVal.str?, List.head?_cons, List.tail_cons, List.isEmpty_nil, cond_true, cond_false, Option.isNone_some, Option.isNone_none, Bool.not_true, Bool.not_false, decide_true, decide_false, beq_self_eq_true, bne_self_eq_false, Int.reduceBEq, Int.reduceBNe, Int.cast_ofNat_Int] at hE1
  rw [c3, Option.bind_some] at hE1
  simp only [Option.bind_some, List.getElem?_cons_zero, List.getElem?_cons_succ, int?_int, AVal.bool?, AVal.ptr?, AVal.sl?, AVal.tup?, AVal.agg?, AVal.ifc?, AVal.fn?, AVal.str?, List.head?_cons, List.tail_cons, List.isEmpty_nil, cond_true, cond_false, Option.isNone_some, Option.isNone_none, Bool.not_true, Bool.not_false, decide_true, decide_false, beq_self_eq_true, bne_self_eq_false, Int.reduceBEq, Int.reduceBNe, Int.cast_ofNat_Int, ldI_at g3, hwi2] at hE1
  rw [s1, c4', Option.bind_some] at hE1
  simp only [Option.bind_some, List.getElem?_cons_zero, List.getElem?_cons_succ, int?_int, AVal.bool?, AVal.ptr?, AVal.sl?, AVal.tup?, AVal.agg?, AVal.ifc?, AVal.fn?, AVal.str?, List.head?_cons, List.tail_cons, List.isEmpty_nil, cond_true, cond_false, Option.isNone_some, Option.isNone_none, Bool.not_true, Bool.not_false, decide_true, decide_false, beq_self_eq_true, bne_self_eq_false, Int.reduceBEq, Int.reduceBNe, Int.cast_ofNat_Int] at hE1
  have H3 := H2.ext u3
  have H4 := H3.ext u4
  have eB : xs.take A ++ ((xs.drop A).take N ++ xs.drop (A + N)) = xs := by
    rw [← List.drop_drop, List.take_append_drop, List.take_append_drop]
  obtain ⟨M', r⟩ := same_loop (xa := ba) (xc := bc) (xs := xs) (bx := M.n) (h := h) (N0 := M2.n) (N1 := M3.n) (at_ := A) (n := N) (arg := arg) (cl := cl) g1 (hd.upto u1) hok hl hb (by omega) (by omega) 3 0 M4 _ _ w.1 w.2.1 w.2.2 ((xs.drop A).take N) 64 64 0 (by omega) (by rw [eB]; exact H4) (fun y h0 h1 => by
    rw [extR_lt h1, extR_ge h0]) (hO.upto u4) hs2 o4.ints
  rw [hxl] at r
  exact ⟨M', c5 (hE.trans (hE1.trans r))⟩
end
theorem ForeignSame_law : ∀ avs M, M.Whole → okL M.n avs → ShowsArgs M [(false, [.sl 1 [.int .u8]]), (true, [.int .i64, .int .i64, .int .u64, .sl 40 [.int .u8, .int .i64, .sl 1 [.int .u8]], .bool])] avs → (∀ L, L = 1048576 → RoNew L Mem.empty M) → ∃ M', C 5 avs M = some (.bool true, M') := by
  intro avs M hM hok h hq
  simp only [ShowsArgs, ShowsArg] at h
  obtain ⟨v, _, rfl, ⟨t, ht, hv⟩, w, _, rfl, ⟨ws, rfl, hw⟩, rfl⟩ := h
  obtain rfl : t = .sl 1 [.int .u8] := by simpa using ht.symm
  obtain ⟨a, l, c, xs, rfl, hx, hl, hwf⟩ := hv.ints
  simp only [ShowsR] at hw
  obtain ⟨v0, w0, rfl, hb0, v1, w1, rfl, hb1, v2, w2, rfl, hb2, v3, w3, rfl, hb3, v4, w4, rfl, hb4, rfl⟩ := hw
  simp only [Shows] at hb0 hb1 hb2 hb4
  obtain ⟨at_, rfl, _⟩ := hb0
  obtain ⟨n, rfl, hn⟩ := hb1
  obtain ⟨arg, rfl, _⟩ := hb2
  obtain ⟨cl, rfl⟩ := hb4
  obtain ⟨a1, l1, c1, rfl, hl1⟩ := hb3.form
  have hl1' := rows_le hb3 (hq _ rfl) (by simp)
  obtain ⟨L, hd, hall⟩ := deeds_of (fun i hi => hb3.row hi) (hq _ rfl)
  have hlen := hd.len
  exact ForeignSame_C hd (fun d hd => (hall d hd).1) (by omega) (fun d hd => (hall d hd).2) (PS.arg hv hx) (i64_bounds hn)
end Go.Proofs.Ytjcakemgghfflaa.M
