/- The package packet: what its functions answer. -/
import Derived.Test.YtfdlmneofbcpnaaRC
import Derived.Test.YtfdlmneofbcpnaaXLib5
import Derived.Test.YtfdlmneofbcpnaaXFc
set_option linter.unusedVariables false
set_option linter.unusedSimpArgs false
set_option linter.unnecessarySimpa false
namespace Go.Proofs.Ytfdlmneofbcpnaa.M
open Go.Abs

/-- A packet (at p, its memory at o): bytes, room ahead and behind, moves. -/
structure IsP (M : Mem) (p o : Nat) (B : List Int) (a t mv : Nat) : Prop where
  gp : M.get p = some ⟨[.bool true, .sl (some (o, 0)) (a + B.length + t) (.known (a + B.length + t)), .int .i64 (a : Int), .int .i64 ((a + B.length : Nat) : Int), .int .i64 (mv : Int)], .fixed⟩
  go : ∃ xs ys, M.get o = some ⟨(xs ++ (B ++ ys)).map (.int .u8), .fixed⟩ ∧ xs.length = a ∧ ys.length = t
  ne : p ≠ o
  sz : B.length ≤ 2048
  all : a + B.length + t ≤ 2560
section
variable {M M' : Mem} {p o : Nat} {B : List Int} {a t mv : Nat}
theorem IsP.same (h : IsP M p o B a t mv) (h1 : M'.get p = M.get p) (h2 : M'.get o = M.get o) : IsP M' p o B a t mv := ⟨h1.trans h.gp, by rw [h2]; exact h.go, h.ne, h.sz, h.all⟩
theorem IsP.lt (h : IsP M p o B a t mv) : p < M.n ∧ o < M.n := by
  obtain ⟨xs, ys, g, _⟩ := h.go
  exact ⟨Mem.get_lt h.gp, Mem.get_lt g⟩
theorem IsP.upto (h : IsP M p o B a t mv) (hu : M.Upto M') : IsP M' p o B a t mv := h.same (hu.2 _ h.lt.1) (hu.2 _ h.lt.2)
theorem IsP.ld (h : IsP M p o B a t mv) : M.ldB p 0 = some true ∧ M.ldL p 1 = some (some (o, 0), a + B.length + t, .known (a + B.length + t)) ∧ M.ldI .i64 p 2 = some (a : Int) ∧ M.ldI .i64 p 3 = some ((a + B.length : Nat) : Int) ∧ M.ldI .i64 p 4 = some (mv : Int) := by
  have g := h.gp
  refine ⟨?_, ?_, ldI_ld.2 (by rw [ld_fix g]; rfl), ldI_ld.2 (by rw [ld_fix g]; rfl), ldI_ld.2 (by rw [ld_fix g]; rfl)⟩
  · unfold Mem.ldB; rw [ld_fix g]; rfl
  · unfold Mem.ldL; rw [ld_fix g]; rfl
theorem pnone_C (h : IsP M p o B a t mv) : C 49 [.ptr (some (p, 0))] M = some (.bool false, M) := by
  have hE := p49_0_eq C prog.meth (some (p, 0)) M
  simp only [Option.bind_some, List.getElem?_cons_zero, List.getElem?_cons_succ, int?_int, AVal.bool?, AVal.ptr?, AVal.sl?, AVal.tup?, AVal.agg?, AVal.ifc?, AVal.fn?, AVal.str?, List.head?_cons, List.tail_cons, List.isEmpty_nil, cond_true, cond_false, Option.isNone_some, Option.isNone_none, Bool.not_true, Bool.not_false, decide_true, decide_false, beq_self_eq_true, bne_self_eq_false, Int.reduceBEq, Int.reduceBNe, Int.cast_ofNat_Int, Nat.zero_add, h.ld.1] at hE
  exact c49 hE
theorem PLen_C (h : IsP M p o B a t mv) : C 46 [.ptr (some (p, 0))] M = some (.int .i64 (B.length : Int), M) := by
  have hE := p46_0_eq C prog.meth (some (p, 0)) M
  have h1 := h.sz
  have h2 := h.all
  have hw : IntKind.wrap .i64 (((a + B.length : Nat) : Int) - (a : Int)) = (B.length : Int) := by rw [wrap_i64 (by omega) (by omega)]; omega
  simp only [Option.bind_some, List.getElem?_cons_zero, List.getElem?_cons_succ, int?_int, AVal.bool?, AVal.ptr?, AVal.sl?, AVal.tup?, AVal.agg?, AVal.ifc?, AVal.fn?, AVal.str?, List.head?_cons, List.tail_cons, List.isEmpty_nil, cond_true, cond_false, Option.isNone_some, Option.isNone_none, Bool.not_true, Bool.not_false, decide_true, decide_false, beq_self_eq_true, bne_self_eq_false, Int.reduceBEq, Int.reduceBNe, Int.cast_ofNat_Int, pnone_C h, Nat.zero_add, h.ld.2.2.1, h.ld.2.2.2.1, hw] at hE
  exact c46 hE
theorem PMoves_C (h : IsP M p o B a t mv) : C 38 [.ptr (some (p, 0))] M = some (.int .i64 (mv : Int), M) := by
  have hE := p38_0_eq C prog.meth (some (p, 0)) M
  simp only [Option.bind_some, List.getElem?_cons_zero, List.getElem?_cons_succ, int?_int, AVal.bool?, AVal.ptr?, AVal.sl?, AVal.tup?, AVal.agg?, AVal.ifc?, AVal.fn?, AVal.str?, List.head?_cons, List.tail_cons, List.isEmpty_nil, cond_true, cond_false, Option.isNone_some, Option.isNone_none, Bool.not_true, Bool.not_false, decide_true, decide_false, beq_self_eq_true, bne_self_eq_false, Int.reduceBEq, Int.reduceBNe, Int.cast_ofNat_Int, pnone_C h, Nat.zero_add, h.ld.2.2.2.2] at hE
  exact c38 hE
/-- The bytes, as they lie. -/
theorem PData_C (h : IsP M p o B a t mv) : ∃ i, C 28 [.ptr (some (p, 0))] M = some (.sl (some (o, i)) B.length (.known B.length), M) ∧ (0 < B.length → i = a) ∧ M.ints .u8 (some (o, i)) B.length (.known B.length) = some B := by
  have hE := p28_0_eq C prog.meth (some (p, 0)) M
  obtain ⟨xs, ys, g, hx, hy⟩ := h.go
  have h1 : M.room 1 (some (o, 0)) (.known (a + B.length + t)) (a + B.length) = true := by
    unfold Mem.room; exact ble_iff.2 (by omega)
  have h2 := fun {β : Type} (K : Option (Nat × Nat) → Nat → Cap → Option β) => slcK_3 (M := M) (size := 1) (a := some (o, 0)) (len := a + B.length + t) (c := .known (a + B.length + t)) (l := a) (h := a + B.length) (m := a + B.length) (kl := .i64) (kh := .i64) (km := .i64) (K := K) h1 (by omega) (Nat.le_refl _)
  have e1 : a + B.length - a = B.length := by omega
  rw [e1] at h2
  simp only [Option.bind_some, List.getElem?_cons_zero, List.getElem?_cons_succ, int?_int, AVal.bool?, AVal.ptr?, AVal.sl?, AVal.tup?, AVal.agg?, AVal.ifc?, AVal.fn?, AVal.str?, List.head?_cons, List.tail_cons, List.isEmpty_nil, cond_true, cond_false, Option.isNone_some, Option.isNone_none, Bool.not_true, Bool.not_false, decide_true, decide_false, beq_self_eq_true, bne_self_eq_false, Int.reduceBEq, Int.reduceBNe, Int.cast_ofNat_Int, pnone_C h, Nat.zero_add, h.ld.2.1, h.ld.2.2.1, h.ld.2.2.2.1, h2] at hE
  by_cases h0 : B.length = 0
  · have e2 : Nat.beq (a + B.length) a = true := by rw [h0, Nat.add_zero]; exact Nat.beq_refl a
    rw [e2, cond_true] at hE
    exact ⟨0, c28 hE, by omega, by rw [h0, ints_zero, List.length_eq_zero_iff.1 h0]⟩
  · have e2 : Nat.beq (a + B.length) a = false := Abs.beq_false (by omega)
    rw [e2, cond_false] at hE
    refine ⟨a, by simpa [adv] using c28 hE, fun _ => rfl, ?_⟩
    exact ints_mid g (by simp) (fun _ => by rw [hx]; rfl)
theorem PBytes_F (h : IsP M p o B a t mv) : ∃ M' v, C 31 [.ptr (some (p, 0))] M = some (.sl v.1 v.2.1 v.2.2, M') ∧ M.Upto M' ∧ Own1 M' v B ∧ (∀ o ∈ fpS v, M.n ≤ o) ∧ (v.2.1 = 0 → v.2.2 = .known 0) := by
  obtain ⟨i, c1, _, c2⟩ := PData_C h
  have h1 := h.sz
  obtain ⟨M', v, c3, u, ow, f, z⟩ := Clone_F c2 (by omega)
  have hE := p31_0_eq C prog.meth (some (p, 0)) M
  simp only [Option.bind_some, List.getElem?_cons_zero, List.getElem?_cons_succ, int?_int, AVal.bool?, AVal.ptr?, AVal.sl?, AVal.tup?, AVal.agg?, AVal.ifc?, AVal.fn?, AVal.str?, List.head?_cons, List.tail_cons, List.isEmpty_nil, cond_true, cond_false, Option.isNone_some, Option.isNone_none, Bool.not_true, Bool.not_false, decide_true, decide_false, beq_self_eq_true, bne_self_eq_false, Int.reduceBEq, Int.reduceBNe, Int.cast_ofNat_Int, c1, c3] at hE
  exact ⟨M', v, c31 hE, u, ow, f, z⟩
theorem PBytes_C (h : IsP M p o B a t mv) : ∃ M' v, C 31 [.ptr (some (p, 0))] M = some (.sl v.1 v.2.1 v.2.2, M') ∧ M.Upto M' ∧ Own1 M' v B ∧ (∀ o ∈ fpS v, M.n ≤ o) := by
  obtain ⟨M', v, q1, q2, q3, q4, _⟩ := PBytes_F h
  exact ⟨M', v, q1, q2, q3, q4⟩
/-- Why a packet may not be moved, by its length. -/
def mayE (len : Nat) (n : Int) : Int := if n > 2048 - len then 5 else if n < -len then 6 else 0
theorem Pmay_C (h : IsP M p o B a t mv) (n : Int) : C 50 [.ptr (some (p, 0)), .int .i64 n] M = some (.int .i64 (mayE B.length n), M) := by
  have hE := p50_0_eq C prog.meth (some (p, 0)) n M
  have h1 := h.sz
  have hw1 : IntKind.wrap .i64 (2048 - (B.length : Int)) = 2048 - (B.length : Int) := wrap_i64 (by omega) (by omega)
  have hw2 : IntKind.wrap .i64 (0 - (B.length : Int)) = -(B.length : Int) := by rw [wrap_i64 (by omega) (by omega)]; omega
  simp only [Option.bind_some, List.getElem?_cons_zero, List.getElem?_cons_succ, int?_int, AVal.bool?, AVal.ptr?, AVal.sl?, AVal.tup?, AVal.agg?, AVal.ifc?, AVal.fn?, AVal.str?, List.head?_cons, List.tail_cons, List.isEmpty_nil, cond_true, cond_false, Option.isNone_some, Option.isNone_none, Bool.not_true, Bool.not_false, decide_true, decide_false, beq_self_eq_true, bne_self_eq_false, Int.reduceBEq, Int.reduceBNe, Int.cast_ofNat_Int, pnone_C h, PLen_C h, hw1, hw2] at hE
  refine c50 (hE.trans ?_)
  unfold mayE
  by_cases h2 : n > 2048 - (B.length : Int)
  · simp [h2]
  · by_cases h3 : n < -(B.length : Int)
    · simp [h2, h3]
    · simp [h2, h3]
end
/-- The memory is laid anew. -/
theorem Play_C {M : Mem} {p : Nat} {x y z : AVal} {mv : Nat} {ba : Option (Nat × Nat)} {bl : Nat} {bc : Cap} {xs : List Int} {hd bf bh tl : Nat} (hp : M.get p = some ⟨[.bool true, x, y, z, .int .i64 (mv : Int)], .fixed⟩) (hx : M.ints .u8 ba bl bc = some xs) (h1 : bf + bl + bh ≤ 2048) (h2 : hd + (bf + bl + bh) + tl ≤ 2560) :
    ∃ M', C 51 [.ptr (some (p, 0)), .sl ba bl bc, .int .i64 (hd : Int), .int .i64 (bf : Int), .int .i64 (bh : Int), .int .i64 (tl : Int)] M = some (.tup [], M') ∧
      IsP M' p M.n (List.replicate bf 0 ++ xs ++ List.replicate bh 0) hd tl mv ∧ M'.n = M.n + 1 ∧ Mem.But (· = p) M M' := by
  have hE := p51_0_eq C prog.meth (some (p, 0)) ba bl bc hd bf bh tl M
  have hxl := ints_length hx
  have hpl := Mem.get_lt hp
  have w1 : IntKind.wrap .i64 ((hd : Int) + (bf : Int)) = ((hd + bf : Nat) : Int) := by rw [wrap_i64 (by omega) (by omega)]; rfl
  have w2 : IntKind.wrap .i64 (((hd + bf : Nat) : Int) + (bl : Int)) = ((hd + bf + bl : Nat) : Int) := by rw [wrap_i64 (by omega) (by omega)]; rfl
  have w3 : IntKind.wrap .i64 (((hd + bf + bl : Nat) : Int) + (bh : Int)) = ((hd + bf + bl + bh : Nat) : Int) := by rw [wrap_i64 (by omega) (by omega)]; rfl
  have w4 : IntKind.wrap .i64 (((hd + bf + bl + bh : Nat) : Int) + (tl : Int)) = ((hd + bf + bl + bh + tl : Nat) : Int) := by rw [wrap_i64 (by omega) (by omega)]; rfl
  have w5 : IntKind.wrap .i64 (((hd + bf + bl + bh + tl : Nat) : Int) - (tl : Int)) = ((hd + bf + bl + bh : Nat) : Int) := by rw [wrap_i64 (by omega) (by omega)]; omega
  have b0 : (0 : Int) ≤ ((hd + bf + bl + bh + tl : Nat) : Int) := by omega
  have b1 : Nat.ble (hd + bf + bl + bh + tl) (hd + bf + bl + bh + tl) = true := ble_iff.2 (Nat.le_refl _)
  have b2 : Nat.ble (1 * (hd + bf + bl + bh + tl)) (2 ^ 47) = true := ble_iff.2 (by omega)
  simp only [w1, w2, w3, w4, b0, Int.toNat_natCast, b1, b2, w5, Bool.and_self, decide_true, cond_true] at hE
  have hu := Mem.Upto.alloc M ⟨replZ [.int .u8 0] (hd + bf + bl + bh + tl), .fixed⟩
  have hg0 := get_alloc_self M ⟨replZ [.int .u8 0] (hd + bf + bl + bh + tl), .fixed⟩
  have hx1 := ints_upto hx hu
  have hp1 := hu.get hp
  have hn1 : (M.alloc ⟨replZ [.int .u8 0] (hd + bf + bl + bh + tl), .fixed⟩).n = M.n + 1 := rfl
  have er : replZ [AVal.int .u8 0] (hd + bf + bl + bh + tl) = (List.replicate (hd + bf) (0 : Int) ++ (List.replicate bl (0 : Int) ++ List.replicate (bh + tl) (0 : Int))).map (.int .u8) := by
    rw [replZ_int, List.replicate_append_replicate, List.replicate_append_replicate, show hd + bf + bl + bh + tl = hd + bf + (bl + (bh + tl)) from by omega]
  rw [er] at hE hu hg0 hx1 hp1 hn1
  generalize M.alloc ⟨(List.replicate (hd + bf) (0 : Int) ++ (List.replicate bl (0 : Int) ++ List.replicate (bh + tl) (0 : Int))).map (.int .u8), .fixed⟩ = M1 at hE hu hg0 hx1 hp1 hn1
  rw [slcK_known_from (l := hd + bf) (n := hd + bf + bl + bh + tl) (by omega) (Nat.le_refl _)] at hE
  obtain ⟨M2, k1, k2, k3, k4⟩ := copyK_part (kk := .u8) (M := M1) (o := M.n) (k := .fixed) (pre := List.replicate (hd + bf) 0) (mid := List.replicate bl 0) (post := List.replicate (bh + tl) 0) (a := cond (Nat.beq (hd + bf + bl + bh + tl) (hd + bf)) (some (M.n, 0)) (adv (some (M.n, 0)) ((hd + bf) * 1))) (c := .known (hd + bf + bl + bh + tl - (hd + bf))) (len := hd + bf + bl + bh + tl - (hd + bf)) hg0 rfl hx1 (by simp) (fun h0 => by
    rw [Abs.beq_false (by omega), cond_false]; simp [adv, slPtr]) (by omega)
  rw [k1] at hE
  have hp2 : M2.get p = some ⟨[.bool true, x, y, z, .int .i64 (mv : Int)], .fixed⟩ := k4.get hp1 (by omega)
  have s1 := st_fix (i := 1) (vs := [.sl (some (M.n, 0)) (hd + bf + bl + bh + tl) (.known (hd + bf + bl + bh + tl))]) hp2 (by simp)
  rw [overL_one] at s1
  have g3 : (M2.put p ⟨[AVal.bool true, x, y, z, .int .i64 (mv : Int)].set 1 (.sl (some (M.n, 0)) (hd + bf + bl + bh + tl) (.known (hd + bf + bl + bh + tl))), .fixed⟩).get p = some ⟨[.bool true, .sl (some (M.n, 0)) (hd + bf + bl + bh + tl) (.known (hd + bf + bl + bh + tl)), y, z, .int .i64 (mv : Int)], .fixed⟩ := get_put_self (by omega)
  have b3 := Mem.But.put M2 p ⟨[AVal.bool true, x, y, z, .int .i64 (mv : Int)].set 1 (.sl (some (M.n, 0)) (hd + bf + bl + bh + tl) (.known (hd + bf + bl + bh + tl))), .fixed⟩
  have n3 : (M2.put p ⟨[AVal.bool true, x, y, z, .int .i64 (mv : Int)].set 1 (.sl (some (M.n, 0)) (hd + bf + bl + bh + tl) (.known (hd + bf + bl + bh + tl))), .fixed⟩).n = M2.n := rfl
  generalize M2.put p ⟨[AVal.bool true, x, y, z, .int .i64 (mv : Int)].set 1 (.sl (some (M.n, 0)) (hd + bf + bl + bh + tl) (.known (hd + bf + bl + bh + tl))), .fixed⟩ = M3 at s1 g3 b3 n3
  have s2 := st_fix (i := 2) (vs := [.int .i64 (hd : Int)]) g3 (by simp)
  rw [overL_one] at s2
  have g4 : (M3.put p ⟨[AVal.bool true, .sl (some (M.n, 0)) (hd + bf + bl + bh + tl) (.known (hd + bf + bl + bh + tl)), y, z, .int .i64 (mv : Int)].set 2 (.int .i64 (hd : Int)), .fixed⟩).get p = some ⟨[.bool true, .sl (some (M.n, 0)) (hd + bf + bl + bh + tl) (.known (hd + bf + bl + bh + tl)), .int .i64 (hd : Int), z, .int .i64 (mv : Int)], .fixed⟩ := get_put_self (by omega)
  have b4 := Mem.But.put M3 p ⟨[AVal.bool true, .sl (some (M.n, 0)) (hd + bf + bl + bh + tl) (.known (hd + bf + bl + bh + tl)), y, z, .int .i64 (mv : Int)].set 2 (.int .i64 (hd : Int)), .fixed⟩
  have n4 : (M3.put p ⟨[AVal.bool true, .sl (some (M.n, 0)) (hd + bf + bl + bh + tl) (.known (hd + bf + bl + bh + tl)), y, z, .int .i64 (mv : Int)].set 2 (.int .i64 (hd : Int)), .fixed⟩).n = M3.n := rfl
  generalize M3.put p ⟨[AVal.bool true, .sl (some (M.n, 0)) (hd + bf + bl + bh + tl) (.known (hd + bf + bl + bh + tl)), y, z, .int .i64 (mv : Int)].set 2 (.int .i64 (hd : Int)), .fixed⟩ = M4 at s2 g4 b4 n4
  have s3 := st_fix (i := 3) (vs := [.int .i64 ((hd + bf + bl + bh : Nat) : Int)]) g4 (by simp)
  rw [overL_one] at s3
  have b5 := Mem.But.put M4 p ⟨[AVal.bool true, .sl (some (M.n, 0)) (hd + bf + bl + bh + tl) (.known (hd + bf + bl + bh + tl)), .int .i64 (hd : Int), z, .int .i64 (mv : Int)].set 3 (.int .i64 ((hd + bf + bl + bh : Nat) : Int)), .fixed⟩
  simp only [Option.bind_some, Nat.zero_add, s1, s2, s3] at hE
  have el : (List.replicate bf (0 : Int) ++ xs ++ List.replicate bh 0).length = bf + bl + bh := by simp [hxl]; omega
  have bb := (b3.trans b4 (fun _ _ h => h)).trans b5 (fun _ _ h => h)
  refine ⟨_, c51 hE, ⟨?_, ⟨List.replicate hd 0, List.replicate tl 0, ?_, by simp, by simp⟩, by omega, by omega, by omega⟩, by simp; omega, ⟨by simp; omega, fun q hq hne => by rw [bb.2 q (by omega) hne, k4.2 q (by omega) (by omega), hu.2 q hq]⟩⟩
  · rw [get_put_self (by omega), el]
    have e1 : hd + (bf + bl + bh) + tl = hd + bf + bl + bh + tl := by omega
    have e2 : hd + (bf + bl + bh) = hd + bf + bl + bh := by omega
    rw [e1, e2]; rfl
  · rw [bb.2 _ (by omega) (by omega), k2]
    congr 2
    rw [← List.replicate_append_replicate (n := hd), ← List.replicate_append_replicate (n := bh)]
    simp only [List.append_assoc]
/-- New. -/
theorem PNew_C {M : Mem} {ba : Option (Nat × Nat)} {bl : Nat} {bc : Cap} {xs : List Int} {hd tl : Nat} (hx : M.ints .u8 ba bl bc = some xs) (h1 : bl ≤ 2048) (h2 : hd ≤ 256) (h3 : tl ≤ 256) :
    ∃ M', C 47 [.sl ba bl bc, .int .i64 (hd : Int), .int .i64 (tl : Int)] M = some (.tup [.ptr (some (M.n, 0)), .int .i64 0], M') ∧ M.Upto M' ∧ IsP M' M.n (M.n + 1) xs hd tl 0 := by
  have hE := p47_0_eq C prog.meth ba bl bc hd tl M
  have e1 : ¬ ((bl : Int) > 2048) := by omega
  have e2 : ¬ ((hd : Int) < 0) := by omega
  have e3 : ¬ ((hd : Int) > 256) := by omega
  have e4 : ¬ ((tl : Int) < 0) := by omega
  have e5 : ¬ ((tl : Int) > 256) := by omega
  simp only [e1, e2, e3, e4, e5, decide_false, cond_false] at hE
  rw [p47_1_eq] at hE
  have hu := Mem.Upto.alloc M ⟨[.bool true, .sl none 0 (.known 0), .int .i64 0, .int .i64 0, .int .i64 0], .fixed⟩
  have hg := get_alloc_self M ⟨[.bool true, .sl none 0 (.known 0), .int .i64 0, .int .i64 0, .int .i64 0], .fixed⟩
  have hx1 := ints_upto hx hu
  have hn : (M.alloc ⟨[.bool true, .sl none 0 (.known 0), .int .i64 0, .int .i64 0, .int .i64 0], .fixed⟩).n = M.n + 1 := rfl
  obtain ⟨M', c1, q1, n1, b1⟩ := Play_C (hd := hd) (bf := 0) (bh := 0) (tl := tl) (mv := 0) hg hx1 (by omega) (by omega)
  rw [hn] at q1
  have c1' : C 51 [.ptr (some (M.n, 0)), .sl ba bl bc, .int .i64 (hd : Int), .int .i64 0, .int .i64 0, .int .i64 (tl : Int)] (M.alloc ⟨[.bool true, .sl none 0 (.known 0), .int .i64 0, .int .i64 0, .int .i64 0], .fixed⟩) = some (.tup [], M') := c1
  simp only [Option.bind_some, List.getElem?_cons_zero, List.getElem?_cons_succ, int?_int, AVal.bool?, AVal.ptr?, AVal.sl?, AVal.tup?, AVal.agg?, AVal.ifc?, AVal.fn?, AVal.str?, List.head?_cons, List.tail_cons, List.isEmpty_nil, cond_true, cond_false, Option.isNone_some, Option.isNone_none, Bool.not_true, Bool.not_false, decide_true, decide_false, beq_self_eq_true, bne_self_eq_false, Int.reduceBEq, Int.reduceBNe, Int.cast_ofNat_Int, c1'] at hE
  refine ⟨M', c47 hE, ⟨by omega, fun o ho => by rw [b1.2 o (by omega) (by omega), hu.2 o ho]⟩, ?_⟩
  simpa using q1
/-- What comes of bytes. -/
def headB (B : List Int) (n : Int) : List Int := if 0 ≤ n then List.replicate n.toNat 0 ++ B else B.drop (-n).toNat
def tailB (B : List Int) (n : Int) : List Int := if 0 ≤ n then B ++ List.replicate n.toNat 0 else B.take (B.length - (-n).toNat)
section
variable {M M' : Mem} {p o : Nat} {B : List Int} {a t mv : Nat}
theorem moved_C {x y : AVal} {A T : Int} (hg : M.get p = some ⟨[.bool true, x, .int .i64 A, .int .i64 T, .int .i64 (mv : Int)], .fixed⟩) (hm : mv < 2 ^ 62) :
    M.ldI .i64 p 4 = some (mv : Int) ∧ ∃ M', M.st p 4 [.int .i64 (IntKind.wrap .i64 ((mv : Int) + 1))] = some M' ∧ M'.get p = some ⟨[.bool true, x, .int .i64 A, .int .i64 T, .int .i64 ((mv + 1 : Nat) : Int)], .fixed⟩ ∧ M'.n = M.n ∧ Mem.But (· = p) M M' := by
  have hw : IntKind.wrap .i64 ((mv : Int) + 1) = ((mv + 1 : Nat) : Int) := by rw [wrap_i64 (by omega) (by omega)]; rfl
  have s1 := st_fix (i := 4) (vs := [.int .i64 ((mv + 1 : Nat) : Int)]) hg (by simp)
  rw [overL_one] at s1
  exact ⟨ldI_ld.2 (by rw [ld_fix hg]; rfl), _, by rw [hw]; exact s1, get_put_self (Mem.get_lt hg), rfl, Mem.But.put _ _ _⟩
theorem PHead_C (h : IsP M p o B a t mv) (n : Int) (hm : mv < 2 ^ 62) :
    (mayE B.length n ≠ 0 ∧ C 29 [.ptr (some (p, 0)), .int .i64 n] M = some (.int .i64 (mayE B.length n), M)) ∨
    (mayE B.length n = 0 ∧ ∃ M' o', C 29 [.ptr (some (p, 0)), .int .i64 n] M = some (.int .i64 0, M') ∧ IsP M' p o' (headB B n) (if n > a then 64 else (a - n).toNat) (if n > a then 64 else t) (mv + 1) ∧ M.n ≤ M'.n ∧ Mem.But (· ∈ [p, o]) M M' ∧ (o' = o ∨ M.n ≤ o')) := by
  have hE := p29_0_eq C prog.meth (some (p, 0)) n M
  simp only [Option.bind_some, List.getElem?_cons_zero, List.getElem?_cons_succ, int?_int, AVal.bool?, AVal.ptr?, AVal.sl?, AVal.tup?, AVal.agg?, AVal.ifc?, AVal.fn?, AVal.str?, List.head?_cons, List.tail_cons, List.isEmpty_nil, cond_true, cond_false, Option.isNone_some, Option.isNone_none, Bool.not_true, Bool.not_false, decide_true, decide_false, beq_self_eq_true, bne_self_eq_false, Int.reduceBEq, Int.reduceBNe, Int.cast_ofNat_Int, Pmay_C h n, Nat.zero_add, h.ld.2.2.1] at hE
  by_cases he : mayE B.length n = 0
  rotate_left
  · have : (mayE B.length n != 0) = true := by simp [he]
    rw [this, cond_true] at hE
    exact .inl ⟨he, c29 hE⟩
  refine .inr ⟨he, ?_⟩
  have : (mayE B.length n != 0) = false := by simp [he]
  rw [this, cond_false] at hE
  have hb : n ≤ 2048 - (B.length : Int) ∧ -(B.length : Int) ≤ n := by
    unfold mayE at he
    split at he
    · omega
    · split at he
      · omega
      · omega
  have hpl := h.lt
  have hall := h.all
  by_cases hn : n > (a : Int)
  · obtain ⟨k, rfl⟩ : ∃ k : Nat, n = (k : Int) := ⟨n.toNat, by omega⟩
    obtain ⟨i, c1, _, c2⟩ := PData_C h
    obtain ⟨M1, c3, q1, n1, b1⟩ := Play_C (hd := 64) (bf := k) (bh := 0) (tl := 64) (mv := mv) h.gp c2 (by omega) (by omega)
    obtain ⟨m1, M2, m2, m3, m4, m5⟩ := moved_C (y := .bool true) q1.gp hm
    have c3' : C 51 [.ptr (some (p, 0)), .sl (some (o, i)) B.length (.known B.length), .int .i64 64, .int .i64 (k : Int), .int .i64 0, .int .i64 64] M = some (.tup [], M1) := c3
    simp only [Option.bind_some, List.getElem?_cons_zero, List.getElem?_cons_succ, int?_int, AVal.bool?, AVal.ptr?, AVal.sl?, AVal.tup?, AVal.agg?, AVal.ifc?, AVal.fn?, AVal.str?, List.head?_cons, List.tail_cons, List.isEmpty_nil, cond_true, cond_false, Option.isNone_some, Option.isNone_none, Bool.not_true, Bool.not_false, decide_true, decide_false, beq_self_eq_true, bne_self_eq_false, Int.reduceBEq, Int.reduceBNe, Int.cast_ofNat_Int, hn, c1, c3'] at hE
    have hE1 := p29_1_eq C prog.meth (some (p, 0)) M1
    simp only [Option.bind_some, List.getElem?_cons_zero, List.getElem?_cons_succ, int?_int, AVal.bool?, AVal.ptr?, AVal.sl?, AVal.tup?, AVal.agg?, AVal.ifc?, AVal.fn?, AVal.str?, List.head?_cons, List.tail_cons, List.isEmpty_nil, cond_true, cond_false, Option.isNone_some, Option.isNone_none, Bool.not_true, Bool.not_false, decide_true, decide_false, beq_self_eq_true, bne_self_eq_false, Int.reduceBEq, Int.reduceBNe, Int.cast_ofNat_Int, Nat.zero_add, m1, m2] at hE1
    have hq : headB B (k : Int) = List.replicate k 0 ++ B ++ List.replicate 0 0 := by unfold headB; rw [if_pos (by omega)]; simp
    have hpn : p ≠ M.n := q1.ne
    refine ⟨M2, M.n, c29 (hE.trans hE1), ?_, by omega, ⟨by omega, fun x hx hne => by simp at hne; rw [m5.2 x (by omega) hne.1, b1.2 x hx hne.1]⟩, .inr (Nat.le_refl _)⟩
    rw [hq, if_pos hn, if_pos hn]
    exact ⟨m3, by rw [m5.2 _ (by omega) (fun e => hpn e.symm)]; exact q1.go, hpn, q1.sz, q1.all⟩
  · have hE2 := p29_2_eq C prog.meth (some (p, 0)) n M
    obtain ⟨xs, ys, g, hx, hy⟩ := h.go
    obtain ⟨a', ha'⟩ : ∃ a' : Nat, (a' : Int) = a - n := ⟨(a - n).toNat, by omega⟩
    have hw : IntKind.wrap .i64 ((a : Int) - n) = (a' : Int) := by rw [wrap_i64 (by omega) (by omega)]; omega
    have s1 := st_fix (i := 2) (vs := [.int .i64 (a' : Int)]) h.gp (by simp)
    rw [overL_one] at s1
    have g1 : (M.put p ⟨[AVal.bool true, .sl (some (o, 0)) (a + B.length + t) (.known (a + B.length + t)), .int .i64 (a : Int), .int .i64 ((a + B.length : Nat) : Int), .int .i64 (mv : Int)].set 2 (.int .i64 (a' : Int)), .fixed⟩).get p = some ⟨[.bool true, .sl (some (o, 0)) (a + B.length + t) (.known (a + B.length + t)), .int .i64 (a' : Int), .int .i64 ((a + B.length : Nat) : Int), .int .i64 (mv : Int)], .fixed⟩ := get_put_self hpl.1
    have b1 := Mem.But.put M p ⟨[AVal.bool true, .sl (some (o, 0)) (a + B.length + t) (.known (a + B.length + t)), .int .i64 (a : Int), .int .i64 ((a + B.length : Nat) : Int), .int .i64 (mv : Int)].set 2 (.int .i64 (a' : Int)), .fixed⟩
    have n1 : (M.put p ⟨[AVal.bool true, .sl (some (o, 0)) (a + B.length + t) (.known (a + B.length + t)), .int .i64 (a : Int), .int .i64 ((a + B.length : Nat) : Int), .int .i64 (mv : Int)].set 2 (.int .i64 (a' : Int)), .fixed⟩).n = M.n := rfl
    generalize M.put p ⟨[AVal.bool true, .sl (some (o, 0)) (a + B.length + t) (.known (a + B.length + t)), .int .i64 (a : Int), .int .i64 ((a + B.length : Nat) : Int), .int .i64 (mv : Int)].set 2 (.int .i64 (a' : Int)), .fixed⟩ = M1 at s1 g1 b1 n1
    have l1 : M1.ldL p 1 = some (some (o, 0), a + B.length + t, .known (a + B.length + t)) := by unfold Mem.ldL; rw [ld_fix g1]; rfl
    have l2 : M1.ldI .i64 p 2 = some (a' : Int) := ldI_ld.2 (by rw [ld_fix g1]; rfl)
    obtain ⟨k, hk⟩ : ∃ k : Nat, (k : Int) = cond (decide (0 > n)) 0 n := by
      by_cases h0 : 0 > n
      · exact ⟨0, by simp [h0]⟩
      · exact ⟨n.toNat, by simp [h0]; omega⟩
    have hk2 : (k : Int) = if 0 ≤ n then n else 0 := by
      rw [hk]
      by_cases h0 : 0 > n
      · rw [if_neg (by omega)]; simp [h0]
      · rw [if_pos (by omega)]; simp [h0]
    have hk3 : a' + k = if 0 ≤ n then a else a' := by split at hk2 <;> (split; omega; omega)
    have hw2 : IntKind.wrap .i64 ((a' : Int) + (k : Int)) = ((a' + k : Nat) : Int) := by rw [wrap_i64 (by omega) (by omega)]; rfl
    have hs := fun {β : Type} (K : Option (Nat × Nat) → Nat → Cap → Option β) => slcK_known (M := M1) (s := 1) (a := some (o, 0)) (len := a + B.length + t) (n := a + B.length + t) (l := a') (h := a' + k) (kl := .i64) (kh := .i64) (K := K) (by omega) (by split at hk3 <;> omega)
    have e1 : a' + k - a' = k := by omega
    rw [e1] at hs
    -- the memory, cut anew
    have hcut : ∃ xs' mid B', xs ++ (B ++ ys) = xs' ++ (mid ++ (B' ++ ys)) ∧ xs'.length = a' ∧ mid.length = k ∧ headB B n = List.replicate k 0 ++ B' ∧ a' + (k + B'.length) = a + B.length := by
      by_cases h0 : 0 ≤ n
      · rw [if_pos h0] at hk2 hk3
        refine ⟨xs.take a', xs.drop a', B, by rw [← List.append_assoc (xs.take a'), List.take_append_drop], by simp; omega, by simp; omega, ?_, by omega⟩
        unfold headB; rw [if_pos h0]; congr 2; omega
      · rw [if_neg h0] at hk2 hk3
        have hk0 : k = 0 := by omega
        subst hk0
        refine ⟨xs ++ B.take (-n).toNat, [], B.drop (-n).toNat, ?_, by simp; omega, rfl, ?_, by simp; omega⟩
        · simp only [List.append_assoc, List.nil_append]
          congr 1
          rw [← List.append_assoc, List.take_append_drop]
        · unfold headB; rw [if_neg h0]; rfl
    obtain ⟨xs', mid, B', k1, k2, k3, k4, k5⟩ := hcut
    have g2 : M1.get o = some ⟨(xs' ++ (mid ++ (B' ++ ys))).map (.int .u8), .fixed⟩ := by rw [b1.2 o hpl.2 (fun e => h.ne e.symm), g, k1]
    obtain ⟨M2, r1, r2, r3, r4⟩ := clearK_part (z := 0) (a := cond (Nat.beq (a + B.length + t) a') (some (o, 0)) (adv (some (o, 0)) (a' * 1))) (c := .known (a + B.length + t - a')) (len := k) g2 rfl k3 (fun h0 => by rw [Abs.beq_false (by omega), cond_false]; simp [adv, slPtr]; omega)
    have g3 := r4.get g1 h.ne
    obtain ⟨m1, M3, m2, m3, m4, m5⟩ := moved_C (y := .bool true) g3 hm
    have hE1 := p29_1_eq C prog.meth (some (p, 0)) M2
    simp only [Option.bind_some, List.getElem?_cons_zero, List.getElem?_cons_succ, int?_int, AVal.bool?, AVal.ptr?, AVal.sl?, AVal.tup?, AVal.agg?, AVal.ifc?, AVal.fn?, AVal.str?, List.head?_cons, List.tail_cons, List.isEmpty_nil, cond_true, cond_false, Option.isNone_some, Option.isNone_none, Bool.not_true, Bool.not_false, decide_true, decide_false, beq_self_eq_true, bne_self_eq_false, Int.reduceBEq, Int.reduceBNe, Int.cast_ofNat_Int, Nat.zero_add, m1, m2] at hE1
    simp only [Option.bind_some, List.getElem?_cons_zero, List.getElem?_cons_succ, int?_int, AVal.bool?, AVal.ptr?, AVal.sl?, AVal.tup?, AVal.agg?, AVal.ifc?, AVal.fn?, AVal.str?, List.head?_cons, List.tail_cons, List.isEmpty_nil, cond_true, cond_false, Option.isNone_some, Option.isNone_none, Bool.not_true, Bool.not_false, decide_true, decide_false, beq_self_eq_true, bne_self_eq_false, Int.reduceBEq, Int.reduceBNe, Int.cast_ofNat_Int, Nat.zero_add, h.ld.2.2.1, hw, s1, l1, l2, ← hk, hw2, hs, r1] at hE2
    simp only [Option.bind_some, List.getElem?_cons_zero, List.getElem?_cons_succ, int?_int, AVal.bool?, AVal.ptr?, AVal.sl?, AVal.tup?, AVal.agg?, AVal.ifc?, AVal.fn?, AVal.str?, List.head?_cons, List.tail_cons, List.isEmpty_nil, cond_true, cond_false, Option.isNone_some, Option.isNone_none, Bool.not_true, Bool.not_false, decide_true, decide_false, beq_self_eq_true, bne_self_eq_false, Int.reduceBEq, Int.reduceBNe, Int.cast_ofNat_Int, hn] at hE
    have ea : (if n > (a : Int) then 64 else ((a : Int) - n).toNat) = a' := by rw [if_neg hn]; omega
    refine ⟨M3, o, c29 (hE.trans (hE2.trans hE1)), ?_, by omega, ⟨by omega, fun x hx hne => by simp at hne; rw [m5.2 x (by omega) hne.1, r4.2 x (by omega) hne.2, b1.2 x hx hne.1]⟩, .inl rfl⟩
    rw [ea, if_neg hn, k4]
    have e5 : a' + (List.replicate k (0 : Int) ++ B').length = a + B.length := by simp; omega
    refine ⟨by rw [e5]; exact m3, ⟨xs', ys, ?_, k2, hy⟩, h.ne, ?_, by omega⟩
    · rw [m5.2 o (by omega) (fun e => h.ne e.symm), r2, List.append_assoc]
    · rw [← k4]
      unfold headB
      split
      · simp; omega
      · simp; omega
theorem PTail_C (h : IsP M p o B a t mv) (n : Int) (hm : mv < 2 ^ 62) :
    (mayE B.length n ≠ 0 ∧ C 30 [.ptr (some (p, 0)), .int .i64 n] M = some (.int .i64 (mayE B.length n), M)) ∨
    (mayE B.length n = 0 ∧ ∃ M' o', C 30 [.ptr (some (p, 0)), .int .i64 n] M = some (.int .i64 0, M') ∧ IsP M' p o' (tailB B n) (if n > t then 64 else a) (if n > t then 64 else (t - n).toNat) (mv + 1) ∧ M.n ≤ M'.n ∧ Mem.But (· ∈ [p, o]) M M' ∧ (o' = o ∨ M.n ≤ o')) := by
  have hE := p30_0_eq C prog.meth (some (p, 0)) n M
  have hall := h.all
  have hw0 : IntKind.wrap .i64 (((a + B.length + t : Nat) : Int) - ((a + B.length : Nat) : Int)) = (t : Int) := by rw [wrap_i64 (by omega) (by omega)]; omega
  simp only [Option.bind_some, List.getElem?_cons_zero, List.getElem?_cons_succ, int?_int, AVal.bool?, AVal.ptr?, AVal.sl?, AVal.tup?, AVal.agg?, AVal.ifc?, AVal.fn?, AVal.str?, List.head?_cons, List.tail_cons, List.isEmpty_nil, cond_true, cond_false, Option.isNone_some, Option.isNone_none, Bool.not_true, Bool.not_false, decide_true, decide_false, beq_self_eq_true, bne_self_eq_false, Int.reduceBEq, Int.reduceBNe, Int.cast_ofNat_Int, Pmay_C h n, Nat.zero_add, h.ld.2.1, h.ld.2.2.2.1, hw0] at hE
  by_cases he : mayE B.length n = 0
  rotate_left
  · have : (mayE B.length n != 0) = true := by simp [he]
    rw [this, cond_true] at hE
    exact .inl ⟨he, c30 hE⟩
  refine .inr ⟨he, ?_⟩
  have : (mayE B.length n != 0) = false := by simp [he]
  rw [this, cond_false] at hE
  have hb : n ≤ 2048 - (B.length : Int) ∧ -(B.length : Int) ≤ n := by
    unfold mayE at he
    split at he
    · omega
    · split at he
      · omega
      · omega
  have hpl := h.lt
  by_cases hn : n > (t : Int)
  · obtain ⟨k, rfl⟩ : ∃ k : Nat, n = (k : Int) := ⟨n.toNat, by omega⟩
    obtain ⟨i, c1, _, c2⟩ := PData_C h
    obtain ⟨M1, c3, q1, n1, b1⟩ := Play_C (hd := 64) (bf := 0) (bh := k) (tl := 64) (mv := mv) h.gp c2 (by omega) (by omega)
    obtain ⟨m1, M2, m2, m3, m4, m5⟩ := moved_C (y := .bool true) q1.gp hm
    have c3' : C 51 [.ptr (some (p, 0)), .sl (some (o, i)) B.length (.known B.length), .int .i64 64, .int .i64 0, .int .i64 (k : Int), .int .i64 64] M = some (.tup [], M1) := c3
    simp only [Option.bind_some, List.getElem?_cons_zero, List.getElem?_cons_succ, int?_int, AVal.bool?, AVal.ptr?, AVal.sl?, AVal.tup?, AVal.agg?, AVal.ifc?, AVal.fn?, AVal.str?, List.head?_cons, List.tail_cons, List.isEmpty_nil, cond_true, cond_false, Option.isNone_some, Option.isNone_none, Bool.not_true, Bool.not_false, decide_true, decide_false, beq_self_eq_true, bne_self_eq_false, Int.reduceBEq, Int.reduceBNe, Int.cast_ofNat_Int, hn, c1, c3'] at hE
    have hE1 := p30_1_eq C prog.meth (some (p, 0)) M1
    simp only [Option.bind_some, List.getElem?_cons_zero, List.getElem?_cons_succ, int?_int, AVal.bool?, AVal.ptr?, AVal.sl?, AVal.tup?, AVal.agg?, AVal.ifc?, AVal.fn?, AVal.str?, List.head?_cons, List.tail_cons, List.isEmpty_nil, cond_true, cond_false, Option.isNone_some, Option.isNone_none, Bool.not_true, Bool.not_false, decide_true, decide_false, beq_self_eq_true, bne_self_eq_false, Int.reduceBEq, Int.reduceBNe, Int.cast_ofNat_Int, Nat.zero_add, m1, m2] at hE1
    have hq : tailB B (k : Int) = List.replicate 0 0 ++ B ++ List.replicate k 0 := by unfold tailB; rw [if_pos (by omega)]; simp
    have hpn : p ≠ M.n := q1.ne
    refine ⟨M2, M.n, c30 (hE.trans hE1), ?_, by omega, ⟨by omega, fun x hx hne => by simp at hne; rw [m5.2 x (by omega) hne.1, b1.2 x hx hne.1]⟩, .inr (Nat.le_refl _)⟩
    rw [hq, if_pos hn, if_pos hn]
    exact ⟨m3, by rw [m5.2 _ (by omega) (fun e => hpn e.symm)]; exact q1.go, hpn, q1.sz, q1.all⟩
  · have hE2 := p30_2_eq C prog.meth (some (p, 0)) n M
    obtain ⟨xs, ys, g, hx, hy⟩ := h.go
    obtain ⟨e', he'⟩ : ∃ e' : Nat, (e' : Int) = a + B.length + n := ⟨(a + B.length + n).toNat, by omega⟩
    have hw : IntKind.wrap .i64 (((a + B.length : Nat) : Int) + n) = (e' : Int) := by rw [wrap_i64 (by omega) (by omega)]; omega
    have s1 := st_fix (i := 3) (vs := [.int .i64 (e' : Int)]) h.gp (by simp)
    rw [overL_one] at s1
    have g1 : (M.put p ⟨[AVal.bool true, .sl (some (o, 0)) (a + B.length + t) (.known (a + B.length + t)), .int .i64 (a : Int), .int .i64 ((a + B.length : Nat) : Int), .int .i64 (mv : Int)].set 3 (.int .i64 (e' : Int)), .fixed⟩).get p = some ⟨[.bool true, .sl (some (o, 0)) (a + B.length + t) (.known (a + B.length + t)), .int .i64 (a : Int), .int .i64 (e' : Int), .int .i64 (mv : Int)], .fixed⟩ := get_put_self hpl.1
    have b1 := Mem.But.put M p ⟨[AVal.bool true, .sl (some (o, 0)) (a + B.length + t) (.known (a + B.length + t)), .int .i64 (a : Int), .int .i64 ((a + B.length : Nat) : Int), .int .i64 (mv : Int)].set 3 (.int .i64 (e' : Int)), .fixed⟩
    have n1 : (M.put p ⟨[AVal.bool true, .sl (some (o, 0)) (a + B.length + t) (.known (a + B.length + t)), .int .i64 (a : Int), .int .i64 ((a + B.length : Nat) : Int), .int .i64 (mv : Int)].set 3 (.int .i64 (e' : Int)), .fixed⟩).n = M.n := rfl
    generalize M.put p ⟨[AVal.bool true, .sl (some (o, 0)) (a + B.length + t) (.known (a + B.length + t)), .int .i64 (a : Int), .int .i64 ((a + B.length : Nat) : Int), .int .i64 (mv : Int)].set 3 (.int .i64 (e' : Int)), .fixed⟩ = M1 at s1 g1 b1 n1
    have l1 : M1.ldL p 1 = some (some (o, 0), a + B.length + t, .known (a + B.length + t)) := by unfold Mem.ldL; rw [ld_fix g1]; rfl
    have l2 : M1.ldI .i64 p 3 = some (e' : Int) := ldI_ld.2 (by rw [ld_fix g1]; rfl)
    obtain ⟨k, hk⟩ : ∃ k : Nat, (k : Int) = cond (decide (0 > n)) 0 n := by
      by_cases h0 : 0 > n
      · exact ⟨0, by simp [h0]⟩
      · exact ⟨n.toNat, by simp [h0]; omega⟩
    have hk2 : (k : Int) = if 0 ≤ n then n else 0 := by
      rw [hk]
      by_cases h0 : 0 > n
      · rw [if_neg (by omega)]; simp [h0]
      · rw [if_pos (by omega)]; simp [h0]
    have hke : k ≤ e' ∧ e' ≤ a + B.length + t := by split at hk2 <;> omega
    have hw2 : IntKind.wrap .i64 ((e' : Int) - (k : Int)) = ((e' - k : Nat) : Int) := by rw [wrap_i64 (by omega) (by omega)]; omega
    have hs := fun {β : Type} (K : Option (Nat × Nat) → Nat → Cap → Option β) => slcK_known (M := M1) (s := 1) (a := some (o, 0)) (len := a + B.length + t) (n := a + B.length + t) (l := e' - k) (h := e') (kl := .i64) (kh := .i64) (K := K) (by omega) (by omega)
    have e1 : e' - (e' - k) = k := by omega
    rw [e1] at hs
    have hcut : ∃ B0 mid ys', xs ++ (B ++ ys) = (xs ++ B0) ++ (mid ++ ys') ∧ (xs ++ B0).length = e' - k ∧ mid.length = k ∧ tailB B n = B0 ++ List.replicate k 0 ∧ e' + ys'.length = a + B.length + t := by
      by_cases h0 : 0 ≤ n
      · rw [if_pos h0] at hk2
        refine ⟨B, ys.take k, ys.drop k, by rw [List.take_append_drop, List.append_assoc], by simp; omega, by simp; omega, ?_, by simp; omega⟩
        unfold tailB; rw [if_pos h0]; congr 2; omega
      · rw [if_neg h0] at hk2
        have hk0 : k = 0 := by omega
        subst hk0
        refine ⟨B.take (B.length - (-n).toNat), [], B.drop (B.length - (-n).toNat) ++ ys, ?_, by simp; omega, rfl, ?_, by simp; omega⟩
        · simp only [List.append_assoc, List.nil_append]
          congr 1
          rw [← List.append_assoc (B.take _), List.take_append_drop]
        · unfold tailB; rw [if_neg h0]; simp
    obtain ⟨B0, mid, ys', k1, k2, k3, k4, k5⟩ := hcut
    have g2 : M1.get o = some ⟨((xs ++ B0) ++ (mid ++ ys')).map (.int .u8), .fixed⟩ := by rw [b1.2 o hpl.2 (fun e => h.ne e.symm), g, k1]
    obtain ⟨M2, r1, r2, r3, r4⟩ := clearK_part (z := 0) (a := cond (Nat.beq (a + B.length + t) (e' - k)) (some (o, 0)) (adv (some (o, 0)) ((e' - k) * 1))) (c := .known (a + B.length + t - (e' - k))) (len := k) g2 rfl k3 (fun h0 => by rw [Abs.beq_false (by omega), cond_false, k2]; simp [adv, slPtr])
    have g3 := r4.get g1 h.ne
    obtain ⟨m1, M3, m2, m3, m4, m5⟩ := moved_C (y := .bool true) g3 hm
    have hE1 := p30_1_eq C prog.meth (some (p, 0)) M2
    simp only [Option.bind_some, List.getElem?_cons_zero, List.getElem?_cons_succ, int?_int, AVal.bool?, AVal.ptr?, AVal.sl?, AVal.tup?, AVal.agg?, AVal.ifc?, AVal.fn?, AVal.str?, List.head?_cons, List.tail_cons, List.isEmpty_nil, cond_true, cond_false, Option.isNone_some, Option.isNone_none, Bool.not_true, Bool.not_false, decide_true, decide_false, beq_self_eq_true, bne_self_eq_false, Int.reduceBEq, Int.reduceBNe, Int.cast_ofNat_Int, Nat.zero_add, m1, m2] at hE1
    simp only [Option.bind_some, List.getElem?_cons_zero, List.getElem?_cons_succ, int?_int, AVal.bool?, AVal.ptr?, AVal.sl?, AVal.tup?, AVal.agg?, AVal.ifc?, AVal.fn?, AVal.str?, List.head?_cons, List.tail_cons, List.isEmpty_nil, cond_true, cond_false, Option.isNone_some, Option.isNone_none, Bool.not_true, Bool.not_false, decide_true, decide_false, beq_self_eq_true, bne_self_eq_false, Int.reduceBEq, Int.reduceBNe, Int.cast_ofNat_Int, Nat.zero_add, h.ld.2.2.2.1, hw, s1, l1, l2, ← hk, hw2, hs, r1] at hE2
    simp only [Option.bind_some, List.getElem?_cons_zero, List.getElem?_cons_succ, int?_int, AVal.bool?, AVal.ptr?, AVal.sl?, AVal.tup?, AVal.agg?, AVal.ifc?, AVal.fn?, AVal.str?, List.head?_cons, List.tail_cons, List.isEmpty_nil, cond_true, cond_false, Option.isNone_some, Option.isNone_none, Bool.not_true, Bool.not_false, decide_true, decide_false, beq_self_eq_true, bne_self_eq_false, Int.reduceBEq, Int.reduceBNe, Int.cast_ofNat_Int, hn] at hE
    rw [List.length_append] at k2
    have hl5 : (tailB B n).length = (e' - a) := by rw [k4]; simp; omega
    have ea : (if n > (t : Int) then 64 else ((t : Int) - n).toNat) = ys'.length := by rw [if_neg hn]; omega
    refine ⟨M3, o, c30 (hE.trans (hE2.trans hE1)), ?_, by omega, ⟨by omega, fun x hx hne => by simp at hne; rw [m5.2 x (by omega) hne.1, r4.2 x (by omega) hne.2, b1.2 x hx hne.1]⟩, .inl rfl⟩
    rw [ea, if_neg hn]
    have e5 : a + (tailB B n).length = e' := by omega
    have e6 : a + B.length + t = e' + ys'.length := by omega
    rw [e6] at m3
    refine ⟨by rw [e5]; exact m3, ⟨xs, ys', ?_, hx, rfl⟩, h.ne, by omega, by omega⟩
    rw [m5.2 o (by omega) (fun e => h.ne e.symm), r2, k4]
    simp only [List.append_assoc]
end
end Go.Proofs.Ytfdlmneofbcpnaa.M
