/- HelperSums: two bytes become others, a sum's field follows. -/
import Derived.Test.YtidofnpfeibbfaaHS
import Derived.Test.YtidofnpfeibbfaaHT
set_option linter.unusedVariables false
set_option linter.unusedSimpArgs false
set_option linter.unnecessarySimpa false
set_option maxRecDepth 100000
namespace Go.Proofs.Ytidofnpfeibbfaa.M
open Go.Abs Go.RowKit

section
variable {M0 M : Mem} {role : Nat → Rj} {gs : List Gp} {B : List Int} {A T mv s hd : Nat} {cs : List AVal}
theorem ask2 {len k : Nat} (h : k + 2 ≤ len) : askE len (k : Int) 2 = 0 := by
  unfold askE
  rw [if_neg (by omega), if_neg (by omega), if_neg (by omega), if_neg (by omega)]
theorem hLoad_C (H : Hnd M0 M role gs B A T mv s hd cs) (hw : wfB B) {k : Nat} (hk : k + 2 ≤ B.length) : C 64 [.ptr (some (s, 0)), .int .i64 (k : Int), .int .i64 2] M = some (.tup [.int .u64 (B[k]'(by omega) * 256 + B[k + 1]'(by omega)), .int .i64 0], M) := by
  rcases I_load H.I (i := 0) (g := 0) rfl rfl rfl (k : Int) 2 with ⟨e, q⟩ | ⟨e, q⟩
  · exact absurd (ask2 hk) e
  · rw [load2 hw hk] at q; exact q
theorem hStore_C (H : Hnd M0 M role gs B A T mv s hd cs) {k : Nat} (hk : k + 2 ≤ B.length) {V : Int} (hV : 0 ≤ V ∧ V < 65536) : ∃ M' role' gs', C 68 [.ptr (some (s, 0)), .int .i64 (k : Int), .int .i64 2, .int .u64 V] M = some (.int .i64 0, M') ∧
    Hnd M0 M' role' gs' ((B.set k (V / 256)).set (k + 1) (V % 256)) A T mv s hd cs ∧ Fj false role role' M M' := by
  rcases I_store H.I (i := 0) (g := 0) rfl rfl rfl (k : Int) 2 V with ⟨e, q⟩ | ⟨e, M', role', gs', q, H', F⟩
  · exact absurd (ask2 hk) e
  · have H' : GS false KI M0 M' role' [s] [some 0] gs' [⟨storeB B (k : Int) 2 V, A, T, mv⟩] := H'
    rw [store2 hk hV] at H'
    have hlt := Mem.get_lt H.gh
    refine ⟨M', role', gs', q, ⟨H', ?_, ?_, H.hM⟩, F⟩
    · rw [F.get hd hlt (by rw [H.rh]; simp [Rj.side])]; exact H.gh
    · rw [F.rl hd hlt]; exact H.rh
/-- May it be fixed so? -/
def mayN (n x y : Nat) : Bool := decide (x + 2 ≤ n) && decide (y + 2 ≤ n) && decide (x ≠ y) && decide (x % 2 = y % 2)
theorem xor_odd (x y : Nat) (hx : x < 2 ^ 64) (hy : y < 2 ^ 64) : (IntKind.wrap .u64 ((BitVec.ofInt (IntKind.bits .u64) (IntKind.wrap .u64 ((BitVec.ofInt (IntKind.bits .u64) (x : Int) ^^^ BitVec.ofInt (IntKind.bits .u64) (y : Int)).toNat : Nat)) &&& BitVec.ofInt (IntKind.bits .u64) 1).toNat : Nat) != 0) = !decide (x % 2 = y % 2) := by
  have h1 := xor_nat x y hx hy
  have h2 : x ^^^ y < 2 ^ 64 := Nat.xor_lt_two_pow hx hy
  have h3 : IntKind.wrap .u64 (((x ^^^ y : Nat)) : Int) = ((x ^^^ y : Nat) : Int) := by rw [wu64]; omega
  have h4 := and_nat (x ^^^ y) 1 h2 (by omega)
  rw [h1, h3, show (1 : Int) = ((1 : Nat) : Int) from rfl, h4, Nat.and_one_is_mod]
  have h5 : IntKind.wrap .u64 ((((x ^^^ y) % 2 : Nat)) : Int) = (((x ^^^ y) % 2 : Nat) : Int) := by rw [wu64]; omega
  rw [h5]
  have hb := Nat.testBit_xor x y 0
  rw [Nat.testBit_zero, Nat.testBit_zero, Nat.testBit_zero] at hb
  have a1 : (x ^^^ y) % 2 = 0 ∨ (x ^^^ y) % 2 = 1 := by omega
  have a2 : x % 2 = 0 ∨ x % 2 = 1 := by omega
  have a3 : y % 2 = 0 ∨ y % 2 = 1 := by omega
  rcases a1 with a1 | a1 <;> rcases a2 with a2 | a2 <;> rcases a3 with a3 | a3 <;> rw [a1, a2, a3] at hb <;> first | (exact absurd hb (by decide)) | (rw [a1, a2, a3]; rfl)
theorem done_C (e : Int) (M : Mem) : C 67 [.int .i64 e] M = some (.int .u64 (cond (e == 0) 1 0), M) := by
  have hE := p67_0_eq C prog.meth e M
  refine c67 (hE.trans ?_)
  cases (e == 0) <;> rfl
theorem fix_C (H : Hnd M0 M role gs B A T mv s hd cs) (hw : wfB B) (hB : B.length ≤ 2048) {x y : Nat} (hx : x < 2 ^ 64) (hy : y < 2 ^ 64) {now : Nat} (hn : now < 65536) :
    (mayN B.length x y = false ∧ C 70 [.ptr (some (hd, 0)), .int .u64 (x : Int), .int .u64 (y : Int), .int .u16 (now : Int)] M = some (.int .u64 0, M)) ∨
    (mayN B.length x y = true ∧ ∃ (M' : Mem) (role' : Nat → Rj) (gs' : List Gp) (r : Nat), C 70 [.ptr (some (hd, 0)), .int .u64 (x : Int), .int .u64 (y : Int), .int .u16 (now : Int)] M = some (.int .u64 1, M') ∧ r ≤ 65535 ∧
      (∀ (h1 : x + 2 ≤ B.length) (h2 : y + 2 ≤ B.length), ((r : Int) + now) % 65535 = (B[x]'(by omega) * 256 + B[x + 1]'(by omega) + (B[y]'(by omega) * 256 + B[y + 1]'(by omega))) % 65535) ∧
      Hnd M0 M' role' gs' ((((B.set y ((now : Int) / 256)).set (y + 1) ((now : Int) % 256)).set x ((r : Int) / 256)).set (x + 1) ((r : Int) % 256)) A T mv s hd cs ∧ Fj false role role' M M') := by
  have hE := p70_0_eq C prog.meth (some (hd, 0)) (x : Int) (y : Int) (now : Int) M
  have w1 := withinH_C H hB hx (n := 2) (by omega)
  have w2 := withinH_C H hB hy (n := 2) (by omega)
  rw [show (((2 : Nat)) : Int) = 2 from rfl] at w1 w2
  rw [w1, Option.bind_some] at hE
  simp only [AVal.bool?, Option.bind_some] at hE
  rw [xor_odd x y hx hy] at hE
  by_cases c1 : x ≤ B.length ∧ 2 ≤ B.length - x
  rotate_left
  · rw [decide_eq_false c1] at hE
    simp only [Bool.not_false, cond_true] at hE
    exact .inl ⟨by unfold mayN; rw [decide_eq_false (show ¬ x + 2 ≤ B.length by omega)]; rfl, c70 hE⟩
  rw [decide_eq_true c1] at hE
  simp only [Bool.not_true, cond_false] at hE
  rw [w2, Option.bind_some] at hE
  simp only [AVal.bool?, Option.bind_some] at hE
  by_cases c2 : y ≤ B.length ∧ 2 ≤ B.length - y
  rotate_left
  · rw [decide_eq_false c2] at hE
    simp only [Bool.not_false, cond_true] at hE
    exact .inl ⟨by unfold mayN; rw [decide_eq_false (show ¬ y + 2 ≤ B.length by omega)]; simp, c70 hE⟩
  rw [decide_eq_true c2] at hE
  simp only [Bool.not_true, cond_false] at hE
  by_cases c3 : x = y
  · subst c3
    simp only [beq_self_eq_true, cond_true] at hE
    exact .inl ⟨by unfold mayN; simp, c70 hE⟩
  have e3 : ((x : Int) == (y : Int)) = false := by simp; omega
  rw [e3, cond_false] at hE
  by_cases c4 : x % 2 = y % 2
  rotate_left
  · rw [decide_eq_false c4] at hE
    simp only [Bool.not_false, cond_true] at hE
    exact .inl ⟨by unfold mayN; rw [decide_eq_false c4]; simp, c70 hE⟩
  rw [decide_eq_true c4] at hE
  simp only [Bool.not_true, cond_false] at hE
  right
  refine ⟨by unfold mayN; rw [decide_eq_true c4, decide_eq_true c3, decide_eq_true (show x + 2 ≤ B.length by omega), decide_eq_true (show y + 2 ≤ B.length by omega)]; rfl, ?_⟩
  have hx2 : x + 2 ≤ B.length := by omega
  have hy2 : y + 2 ≤ B.length := by omega
  have wx : IntKind.wrap .i64 (x : Int) = (x : Int) := wrap_i64 (by omega) (by omega)
  have wy : IntKind.wrap .i64 (y : Int) = (y : Int) := wrap_i64 (by omega) (by omega)
  have hE1 := p70_1_eq C prog.meth (some (hd, 0)) (x : Int) (y : Int) (now : Int) M
  simp only [Option.bind_some, List.getElem?_cons_zero, List.getElem?_cons_succ, int?_int, AVal.bool?, AVal.ptr?, AVal.sl?, AVal.tup?, AVal.agg?, AVal.ifc?, AVal.fn?, AVal.str?, List.head?_cons, List.tail_cons, List.isEmpty_nil, cond_true, cond_false, Option.isNone_some, Option.isNone_none, Bool.not_true, Bool.not_false, decide_true, decide_false, beq_self_eq_true, bne_self_eq_false, Int.reduceBEq, Int.reduceBNe, Int.cast_ofNat_Int, Nat.zero_add, ldP_at H.gh, wx, wy, hLoad_C H hw hx2, hLoad_C H hw hy2, bne_self_eq_false] at hE1
  have b0 := hw _ (List.getElem_mem (show x < B.length by omega))
  have b1 := hw _ (List.getElem_mem (show x + 1 < B.length by omega))
  have b2 := hw _ (List.getElem_mem (show y < B.length by omega))
  have b3 := hw _ (List.getElem_mem (show y + 1 < B.length by omega))
  obtain ⟨X, hX⟩ : ∃ X : Nat, B[x]'(by omega) * 256 + B[x + 1]'(by omega) = (X : Int) := ⟨(B[x]'(by omega) * 256 + B[x + 1]'(by omega)).toNat, by omega⟩
  obtain ⟨Y, hY⟩ : ∃ Y : Nat, B[y]'(by omega) * 256 + B[y + 1]'(by omega) = (Y : Int) := ⟨(B[y]'(by omega) * 256 + B[y + 1]'(by omega)).toNat, by omega⟩
  rw [hX, hY] at hE1
  have hE2 := p70_2_eq C prog.meth (some (hd, 0)) (x : Int) (y : Int) (now : Int) (X : Int) (Y : Int) M
  have wn : IntKind.wrap .u64 (now : Int) = (now : Int) := by rw [wu64]; omega
  have wX : IntKind.wrap .u16 (X : Int) = (X : Int) := by rw [wu16]; omega
  have wY : IntKind.wrap .u16 (Y : Int) = (Y : Int) := by rw [wu16]; omega
  obtain ⟨M1, role1, gs1, s1, H1, F1⟩ := hStore_C H hy2 (V := (now : Int)) (by omega)
  obtain ⟨r, r1, r2, r3⟩ := Update_C (M := Mem.empty) (f := X) (o := Y) (n := now) (by omega) (by omega) (by omega)
  have wr : IntKind.wrap .u64 (r : Int) = (r : Int) := by rw [wu64]; omega
  obtain ⟨M2, role2, gs2, s2, H2, F2⟩ := hStore_C H1 (k := x) (by simp; omega) (V := (r : Int)) (by omega)
  have dn := done_C 0 Mem.empty
  simp only [Option.bind_some, List.getElem?_cons_zero, List.getElem?_cons_succ, int?_int, AVal.bool?, AVal.ptr?, AVal.sl?, AVal.tup?, AVal.agg?, AVal.ifc?, AVal.fn?, AVal.str?, List.head?_cons, List.tail_cons, List.isEmpty_nil, cond_true, cond_false, Option.isNone_some, Option.isNone_none, Bool.not_true, Bool.not_false, decide_true, decide_false, beq_self_eq_true, bne_self_eq_false, Int.reduceBEq, Int.reduceBNe, Int.cast_ofNat_Int, Nat.zero_add, ldP_at H.gh, wy, wn, s1, bne_self_eq_false, ldP_at H1.gh, wX, wY, r1, wx, wr, s2, dn] at hE2
  refine ⟨M2, role2, gs2, r, c70 (hE.trans (hE1.trans hE2)), r2, fun _ _ => ?_, H2, F1.trans F2⟩
  rw [hX, hY]
  omega
theorem Hnd.sl {M' : Mem} (H : Hnd M0 M role gs B A T mv s hd cs) : True := trivial
/-- Call, of HelpFix. -/
theorem CallFix_C (H : Hnd M0 M role gs B A T mv s hd cs) (hw : wfB B) (hB : B.length ≤ 2048) {x y z : Nat} {q4 q5 : Int} (hx : x < 2 ^ 64) (hy : y < 2 ^ 64) (hz : z < 2 ^ 64) :
    (mayN B.length x y = false ∧ ∃ (M' : Mem) (role' : Nat → Rj), C 17 [.ptr (some (hd, 0)), .int .i32 5, .agg [.int .u64 (x : Int), .int .u64 (y : Int), .int .u64 (z : Int), .int .u64 q4, .int .u64 q5]] M = some (.tup [.int .u64 0, .int .i64 0], M') ∧ Hnd M0 M' role' gs B A T mv s hd cs ∧ Fj false role role' M M') ∨
    (mayN B.length x y = true ∧ ∃ (M' : Mem) (role' : Nat → Rj) (gs' : List Gp) (r : Nat), C 17 [.ptr (some (hd, 0)), .int .i32 5, .agg [.int .u64 (x : Int), .int .u64 (y : Int), .int .u64 (z : Int), .int .u64 q4, .int .u64 q5]] M = some (.tup [.int .u64 1, .int .i64 0], M') ∧ r ≤ 65535 ∧
      (∀ (h1 : x + 2 ≤ B.length) (h2 : y + 2 ≤ B.length), ((r : Int) + (z % 65536 : Nat)) % 65535 = (B[x]'(by omega) * 256 + B[x + 1]'(by omega) + (B[y]'(by omega) * 256 + B[y + 1]'(by omega))) % 65535) ∧
      Hnd M0 M' role' gs' ((((B.set y (((z % 65536 : Nat) : Int) / 256)).set (y + 1) (((z % 65536 : Nat) : Int) % 256)).set x ((r : Int) / 256)).set (x + 1) ((r : Int) % 256)) A T mv s hd cs ∧ Fj false role role' M M') := by
  have hE := p17_0_eq C prog.meth (some (hd, 0)) 5 (x : Int) (y : Int) (z : Int) q4 q5 M
  obtain ⟨M1, e1, g1, u1, n1⟩ := alloc_at M ⟨[.int .u64 (x : Int), .int .u64 (y : Int), .int .u64 (z : Int), .int .u64 q4, .int .u64 q5], .fixed⟩
  have H1 := H.upto u1
  have F1 : Fj false role (fun y => if y < M.n then role y else .other 0) M M1 := ⟨u1.1, fun y hy _ => u1.2 y hy, fun y hy => if_pos hy⟩
  have hth := p46_0_eq C prog.meth (some (hd, 0)) M1
  simp only [Option.bind_some, List.getElem?_cons_zero, List.getElem?_cons_succ, int?_int, AVal.bool?, AVal.ptr?, AVal.sl?, AVal.tup?, AVal.agg?, AVal.ifc?, AVal.fn?, AVal.str?, List.head?_cons, List.tail_cons, List.isEmpty_nil, cond_true, cond_false, Option.isNone_some, Option.isNone_none, Bool.not_true, Bool.not_false, decide_true, decide_false, beq_self_eq_true, bne_self_eq_false, Int.reduceBEq, Int.reduceBNe, Int.cast_ofNat_Int, Nat.zero_add, ldP_at H1.gh] at hth
  obtain ⟨_, ha⟩ := HArgs_C (i := 5) (by omega)
  have t5 : tellA 5 = [.int .i64 3, .bool true] := by kernel_rfl
  rw [t5] at ha
  simp only [e1, c46 hth, Option.bind_some, List.getElem?_cons_zero, List.getElem?_cons_succ, int?_int, AVal.bool?, AVal.ptr?, AVal.sl?, AVal.tup?, AVal.agg?, AVal.ifc?, AVal.fn?, AVal.str?, List.head?_cons, List.tail_cons, List.isEmpty_nil, cond_true, cond_false, Option.isNone_some, Option.isNone_none, Bool.not_true, Bool.not_false, decide_true, decide_false, beq_self_eq_true, bne_self_eq_false, Int.reduceBEq, Int.reduceBNe, Int.cast_ofNat_Int, Nat.zero_add, ldP_at H1.gh, alive_C H1.I, bne_self_eq_false, ha] at hE
  have hE1 := p17_1_eq C prog.meth (some (hd, 0)) 5 M.n M1
  have l0 : M1.ldI .u64 M.n (0 + 0 * 1) = some (x : Int) := by rw [ldI_at g1]; rfl
  have l1 : M1.ldI .u64 M.n (0 + 1 * 1) = some (y : Int) := by rw [ldI_at g1]; rfl
  have l2 : M1.ldI .u64 M.n (0 + 2 * 1) = some (z : Int) := by rw [ldI_at g1]; rfl
  have wz : IntKind.wrap .u16 (z : Int) = ((z % 65536 : Nat) : Int) := by rw [wu16]; omega
  have hh := p47_0_eq C prog.meth (some (hd, 0)) 5 (x : Int) (y : Int) (z : Int) M1
  have hh2 := p47_2_eq C prog.meth (some (hd, 0)) 5 (x : Int) (y : Int) (z : Int) 5 M1
  have hh3 := p47_3_eq C prog.meth (some (hd, 0)) 5 (x : Int) (y : Int) (z : Int) 5 false M1
  have z1 : ((5 : Int) == 1) = false := by decide
  have z2 : ((5 : Int) == 2) = false := by decide
  have z3 : ((5 : Int) == 3) = false := by decide
  have z4 : ((5 : Int) == 4) = false := by decide
  have z5 : ((5 : Int) == 5) = true := by decide
  simp only [z1, z2, cond_false] at hh
  simp only [z3, z4, cond_false] at hh2
  rw [wz] at hh3
  simp only [cond_false, z5, cond_true] at hh3
  rcases fix_C H1 hw hB hx hy (now := z % 65536) (by omega) with ⟨m, f⟩ | ⟨m, M', role', gs', r, f, f1, f2, f3, f4⟩
  · rw [f] at hh3
    simp only [Option.bind_some, List.getElem?_cons_zero, List.getElem?_cons_succ, int?_int, AVal.bool?, AVal.ptr?, AVal.sl?, AVal.tup?, AVal.agg?, AVal.ifc?, AVal.fn?, AVal.str?, List.head?_cons, List.tail_cons, List.isEmpty_nil, cond_true, cond_false, Option.isNone_some, Option.isNone_none, Bool.not_true, Bool.not_false, decide_true, decide_false, beq_self_eq_true, bne_self_eq_false, Int.reduceBEq, Int.reduceBNe, Int.cast_ofNat_Int] at hh3
    have hhelp := c47 (hh.trans (hh2.trans hh3))
    simp only [l0, l1, l2, hhelp, Option.bind_some, List.getElem?_cons_zero, List.getElem?_cons_succ, int?_int, AVal.bool?, AVal.ptr?, AVal.sl?, AVal.tup?, AVal.agg?, AVal.ifc?, AVal.fn?, AVal.str?, List.head?_cons, List.tail_cons, List.isEmpty_nil, cond_true, cond_false, Option.isNone_some, Option.isNone_none, Bool.not_true, Bool.not_false, decide_true, decide_false, beq_self_eq_true, bne_self_eq_false, Int.reduceBEq, Int.reduceBNe, Int.cast_ofNat_Int] at hE1
    exact .inl ⟨m, M1, _, c17 (hE.trans hE1), H1, F1⟩
  · rw [f] at hh3
    simp only [Option.bind_some, List.getElem?_cons_zero, List.getElem?_cons_succ, int?_int, AVal.bool?, AVal.ptr?, AVal.sl?, AVal.tup?, AVal.agg?, AVal.ifc?, AVal.fn?, AVal.str?, List.head?_cons, List.tail_cons, List.isEmpty_nil, cond_true, cond_false, Option.isNone_some, Option.isNone_none, Bool.not_true, Bool.not_false, decide_true, decide_false, beq_self_eq_true, bne_self_eq_false, Int.reduceBEq, Int.reduceBNe, Int.cast_ofNat_Int] at hh3
    have hhelp := c47 (hh.trans (hh2.trans hh3))
    simp only [l0, l1, l2, hhelp, Option.bind_some, List.getElem?_cons_zero, List.getElem?_cons_succ, int?_int, AVal.bool?, AVal.ptr?, AVal.sl?, AVal.tup?, AVal.agg?, AVal.ifc?, AVal.fn?, AVal.str?, List.head?_cons, List.tail_cons, List.isEmpty_nil, cond_true, cond_false, Option.isNone_some, Option.isNone_none, Bool.not_true, Bool.not_false, decide_true, decide_false, beq_self_eq_true, bne_self_eq_false, Int.reduceBEq, Int.reduceBNe, Int.cast_ofNat_Int] at hE1
    exact .inr ⟨m, M', role', gs', r, c17 (hE.trans hE1), f1, f2, f3, F1.trans f4⟩
end
end Go.Proofs.Ytidofnpfeibbfaa.M
