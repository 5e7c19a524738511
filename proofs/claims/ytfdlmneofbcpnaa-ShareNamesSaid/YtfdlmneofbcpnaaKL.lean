/- The package packet: Load, Store. -/
import Derived.Test.YtfdlmneofbcpnaaK
set_option linter.unusedVariables false
set_option linter.unusedSimpArgs false
set_option linter.unnecessarySimpa false
set_option maxRecDepth 100000
namespace Go.Proofs.Ytfdlmneofbcpnaa.M
open Go.Abs

def askE (len : Nat) (at_ size : Int) : Int := if size < 1 then 2 else if size > 8 then 2 else if at_ < 0 then 20 else if at_ > len - size then 20 else 0
def ldF (v c : Int) : Int := IntKind.wrap .u64 ((BitVec.ofInt (IntKind.bits .u64) (IntKind.wrap .u64 (v * 2 ^ Nat.min 8 (IntKind.bits .u64))) ||| BitVec.ofInt (IntKind.bits .u64) (IntKind.wrap .u64 c)).toNat)
def stB (size v : Int) (i : Nat) : Int := IntKind.wrap .u8 (Int.fdiv v (2 ^ Nat.min (IntKind.wrap .i64 (8 * (IntKind.wrap .i64 ((IntKind.wrap .i64 (size - 1)) - (i : Int))))).toNat (IntKind.bits .u64)))
def stL (size v : Int) : Nat → Nat → List Int → List Int
  | 0, _, S => S
  | d + 1, i, S => stL size v d (i + 1) (S.set i (stB size v i))
theorem stL_length (size v : Int) : ∀ d i S, (stL size v d i S).length = S.length
  | 0, _, _ => rfl
  | d + 1, i, S => by rw [stL, stL_length]; simp
def storeB (B : List Int) (at_ size : Int) (v : Int) : List Int := B.take at_.toNat ++ (stL size v size.toNat 0 ((B.drop at_.toNat).take size.toNat) ++ B.drop (at_.toNat + size.toNat))
section
variable {M M' : Mem} {p o : Nat} {B : List Int} {a t mv : Nat}
theorem Pasked_C (h : IsP M p o B a t mv) (at_ size : Int) : C 48 [.ptr (some (p, 0)), .int .i64 at_, .int .i64 size] M = some (.int .i64 (askE B.length at_ size), M) := by
  have hE := p48_0_eq C prog.meth (some (p, 0)) at_ size M
  have h1 := h.sz
  simp only [Option.bind_some, List.getElem?_cons_zero, List.getElem?_cons_succ, int?_int, AVal.bool?, AVal.ptr?, AVal.sl?, AVal.tup?, AVal.agg?, AVal.ifc?, AVal.fn?, AVal.str?, List.head?_cons, List.tail_cons, List.isEmpty_nil, cond_true, cond_false, Option.isNone_some, Option.isNone_none, Bool.not_true, Bool.not_false, decide_true, decide_false, beq_self_eq_true, bne_self_eq_false, Int.reduceBEq, Int.reduceBNe, Int.cast_ofNat_Int, pnone_C h] at hE
  refine c48 (hE.trans ?_)
  have hE1 := p48_1_eq C prog.meth (some (p, 0)) at_ size M
  refine hE1.trans ?_
  unfold askE
  by_cases h2 : size < 1
  · simp [h2]
  by_cases h3 : size > 8
  · simp [h2, h3]
  by_cases h4 : at_ < 0
  · simp [h2, h3, h4]
  have hw : IntKind.wrap .i64 ((B.length : Int) - size) = (B.length : Int) - size := wrap_i64 (by omega) (by omega)
  simp only [Option.bind_some, List.getElem?_cons_zero, List.getElem?_cons_succ, int?_int, AVal.bool?, AVal.ptr?, AVal.sl?, AVal.tup?, AVal.agg?, AVal.ifc?, AVal.fn?, AVal.str?, List.head?_cons, List.tail_cons, List.isEmpty_nil, cond_true, cond_false, Option.isNone_some, Option.isNone_none, Bool.not_true, Bool.not_false, decide_true, decide_false, beq_self_eq_true, bne_self_eq_false, Int.reduceBEq, Int.reduceBNe, Int.cast_ofNat_Int, h2, h3, h4, PLen_C h, hw]
  by_cases h5 : at_ > (B.length : Int) - size
  · simp [h2, h3, h4, h5]
  · simp [h2, h3, h4, h5]
theorem askE_zero {len : Nat} {at_ size : Int} (h : askE len at_ size = 0) : 1 ≤ size ∧ size ≤ 8 ∧ 0 ≤ at_ ∧ at_ + size ≤ len := by
  unfold askE at h
  split at h
  · omega
  · split at h
    · omega
    · split at h
      · omega
      · split at h
        · omega
        · omega
theorem load_loop {sa : Option (Nat × Nat)} {l : Nat} {c : Cap} {xs : List Int} (hx : M.ints .u8 sa l c = some xs) (hl : l < 2 ^ 62) : ∀ (d j : Nat) (v : Int), j + d = l →
    p45_1 C prog.meth v sa l c (l : Int) j M = some (.tup [.int .u64 ((xs.drop j).foldl ldF v), .int .i64 0], M) := by
  obtain ⟨lx, gx⟩ := ints_iff.1 hx
  intro d
  induction d with
  | zero =>
    intro j v hj
    have hE := p45_1_eq C prog.meth v sa l c (l : Int) j M
    have h1 : ¬ ((j : Int) < (l : Int)) := by omega
    simp only [Option.bind_some, List.getElem?_cons_zero, List.getElem?_cons_succ, int?_int, AVal.bool?, AVal.ptr?, AVal.sl?, AVal.tup?, AVal.agg?, AVal.ifc?, AVal.fn?, AVal.str?, List.head?_cons, List.tail_cons, List.isEmpty_nil, cond_true, cond_false, Option.isNone_some, Option.isNone_none, Bool.not_true, Bool.not_false, decide_true, decide_false, beq_self_eq_true, bne_self_eq_false, Int.reduceBEq, Int.reduceBNe, Int.cast_ofNat_Int, h1] at hE
    rw [hE, List.drop_eq_nil_of_le (by omega)]; rfl
  | succ d ih =>
    intro j v hj
    have hE := p45_1_eq C prog.meth v sa l c (l : Int) j M
    have h1 : (j : Int) < (l : Int) := by omega
    have h0 : (0 : Int) ≤ (j : Int) := by omega
    have h2 : Nat.blt j l = true := Mem.blt_iff.2 (by omega)
    obtain ⟨q, hq, hqv⟩ := gx j (by omega)
    rw [List.getElem?_eq_getElem (by omega)] at hqv
    have hw : IntKind.wrap .i64 ((j : Int) + 1) = ((j + 1 : Nat) : Int) := by rw [wrap_i64 (by omega) (by omega)]; rfl
    simp only [h1, h0, decide_true, cond_true, Int.toNat_natCast, h2, hq, Option.bind_some, Nat.mul_one, hqv, hw] at hE
    rw [List.drop_eq_getElem_cons (by omega), List.foldl_cons]
    exact hE.trans (ih (j + 1) (ldF v xs[j]) (by omega))
/-- Where a part of a packet lies. -/
theorem PPart (h : IsP M p o B a t mv) {k n : Nat} (hk : k + n ≤ B.length) (hn : 0 < n) : ∃ i, C 28 [.ptr (some (p, 0))] M = some (.sl (some (o, i)) B.length (.known B.length), M) ∧
    (∀ {β : Type} (K : Option (Nat × Nat) → Nat → Cap → Option β), slcK false 1 (some (o, i)) B.length (.known B.length) M (some (.int .i64 (k : Int))) (some (.int .i64 ((k + n : Nat) : Int))) none K = K (some (o, a + k)) n (.known (B.length - k))) := by
  obtain ⟨i, c1, hi, c2⟩ := PData_C h
  have hi := hi (by omega)
  subst hi
  refine ⟨i, c1, fun K => ?_⟩
  rw [slcK_known (l := k) (h := k + n) (by omega) (by omega), Abs.beq_false (by omega), cond_false, show k + n - k = n from by omega]
  simp [adv]
theorem PLoad_C (h : IsP M p o B a t mv) (at_ size : Int) :
    (askE B.length at_ size ≠ 0 ∧ C 45 [.ptr (some (p, 0)), .int .i64 at_, .int .i64 size] M = some (.tup [.int .u64 0, .int .i64 (askE B.length at_ size)], M)) ∨
    (askE B.length at_ size = 0 ∧ C 45 [.ptr (some (p, 0)), .int .i64 at_, .int .i64 size] M = some (.tup [.int .u64 (((B.drop at_.toNat).take size.toNat).foldl ldF 0), .int .i64 0], M)) := by
  have hE := p45_0_eq C prog.meth (some (p, 0)) at_ size M
  simp only [Option.bind_some, List.getElem?_cons_zero, List.getElem?_cons_succ, int?_int, AVal.bool?, AVal.ptr?, AVal.sl?, AVal.tup?, AVal.agg?, AVal.ifc?, AVal.fn?, AVal.str?, List.head?_cons, List.tail_cons, List.isEmpty_nil, cond_true, cond_false, Option.isNone_some, Option.isNone_none, Bool.not_true, Bool.not_false, decide_true, decide_false, beq_self_eq_true, bne_self_eq_false, Int.reduceBEq, Int.reduceBNe, Int.cast_ofNat_Int, Pasked_C h at_ size] at hE
  by_cases he : askE B.length at_ size = 0
  rotate_left
  · have : (askE B.length at_ size != 0) = true := by simp [he]
    rw [this, cond_true] at hE
    exact .inl ⟨he, c45 hE⟩
  refine .inr ⟨he, ?_⟩
  have hb := askE_zero he
  have hsz := h.sz
  have : (askE B.length at_ size != 0) = false := by simp [he]
  rw [this, cond_false] at hE
  obtain ⟨k, rfl⟩ : ∃ k : Nat, at_ = (k : Int) := ⟨at_.toNat, by omega⟩
  obtain ⟨n, rfl⟩ : ∃ n : Nat, size = (n : Int) := ⟨size.toNat, by omega⟩
  obtain ⟨i, c1, c2⟩ := PPart h (k := k) (n := n) (by omega) (by omega)
  have hw : IntKind.wrap .i64 ((k : Int) + (n : Int)) = ((k + n : Nat) : Int) := by rw [wrap_i64 (by omega) (by omega)]; rfl
  obtain ⟨xs, ys, g, hx, hy⟩ := h.go
  have hi : M.ints .u8 (some (o, a + k)) n (.known (B.length - k)) = some ((B.drop k).take n) := by
    have g' : M.get o = some ⟨((xs ++ B.take k) ++ ((B.drop k).take n ++ (B.drop (k + n) ++ ys))).map (.int .u8), .fixed⟩ := by
      rw [g]; congr 3
      rw [← List.drop_drop, ← List.append_assoc ((B.drop k).take n), List.take_append_drop, List.append_assoc, ← List.append_assoc (B.take k), List.take_append_drop]
    have := ints_mid (a := some (o, a + k)) (c := .known (B.length - k)) g' (by simp) (fun _ => by simp [slPtr, hx]; omega)
    have hl : ((B.drop k).take n).length = n := by simp; omega
    rw [hl] at this
    exact this
  have hlp := load_loop (c := .known (B.length - k)) hi (by omega) n 0 0 (by omega)
  rw [List.drop_zero] at hlp
  simp only [Option.bind_some, List.getElem?_cons_zero, List.getElem?_cons_succ, int?_int, AVal.bool?, AVal.ptr?, AVal.sl?, AVal.tup?, AVal.agg?, AVal.ifc?, AVal.fn?, AVal.str?, List.head?_cons, List.tail_cons, List.isEmpty_nil, cond_true, cond_false, Option.isNone_some, Option.isNone_none, Bool.not_true, Bool.not_false, decide_true, decide_false, beq_self_eq_true, bne_self_eq_false, Int.reduceBEq, Int.reduceBNe, Int.cast_ofNat_Int, c1, hw, c2] at hE
  exact c45 (hE.trans hlp)
theorem store_loop {n : Nat} {v : Int} {pre post : List Int} {c : Cap} (hn : n ≤ 8) (hs : slPtr (some (o, pre.length)) c = some (o, pre.length)) : ∀ (d i : Nat) (M : Mem) (S : List Int), i + d = n → S.length = n → M.get o = some ⟨(pre ++ (S ++ post)).map (.int .u8), .fixed⟩ →
    ∃ M', p27_1 C prog.meth (n : Int) v (some (o, pre.length)) n c (n : Int) i M = some (.int .i64 0, M') ∧ M'.get o = some ⟨(pre ++ (stL n v d i S ++ post)).map (.int .u8), .fixed⟩ ∧ M'.n = M.n ∧ Mem.But (· = o) M M' := by
  intro d
  induction d with
  | zero =>
    intro i M S hi hS hg
    have hE := p27_1_eq C prog.meth (n : Int) v (some (o, pre.length)) n c (n : Int) i M
    have h1 : ¬ ((i : Int) < (n : Int)) := by omega
    simp only [Option.bind_some, List.getElem?_cons_zero, List.getElem?_cons_succ, int?_int, AVal.bool?, AVal.ptr?, AVal.sl?, AVal.tup?, AVal.agg?, AVal.ifc?, AVal.fn?, AVal.str?, List.head?_cons, List.tail_cons, List.isEmpty_nil, cond_true, cond_false, Option.isNone_some, Option.isNone_none, Bool.not_true, Bool.not_false, decide_true, decide_false, beq_self_eq_true, bne_self_eq_false, Int.reduceBEq, Int.reduceBNe, Int.cast_ofNat_Int, h1] at hE
    exact ⟨M, hE, hg, rfl, Mem.But.refl _ _⟩
  | succ d ih =>
    intro i M S hi hS hg
    have hE := p27_1_eq C prog.meth (n : Int) v (some (o, pre.length)) n c (n : Int) i M
    have h1 : (i : Int) < (n : Int) := by omega
    have h0 : (0 : Int) ≤ (i : Int) := by omega
    have h2 : Nat.blt i n = true := Mem.blt_iff.2 (by omega)
    have hw : IntKind.wrap .i64 ((i : Int) + 1) = ((i + 1 : Nat) : Int) := by rw [wrap_i64 (by omega) (by omega)]; rfl
    have w1 : IntKind.wrap .i64 ((n : Int) - 1) = (n : Int) - 1 := wrap_i64 (by omega) (by omega)
    have w2 : IntKind.wrap .i64 ((n : Int) - 1 - (i : Int)) = (n : Int) - 1 - (i : Int) := wrap_i64 (by omega) (by omega)
    have w3 : IntKind.wrap .i64 (8 * ((n : Int) - 1 - (i : Int))) = 8 * ((n : Int) - 1 - (i : Int)) := wrap_i64 (by omega) (by omega)
    have h3 : ¬ (IntKind.wrap .i64 (8 * (IntKind.wrap .i64 ((IntKind.wrap .i64 ((n : Int) - 1)) - (i : Int)))) < 0) := by rw [w1, w2, w3]; omega
    have hst := st_fix (i := pre.length + i) (vs := [.int .u8 (stB n v i)]) hg (by simp; omega)
    rw [overL_one, ← List.map_set, List.set_append_right _ _ (by omega), show pre.length + i - pre.length = i from by omega, List.set_append_left _ _ (by omega)] at hst
    have hg2 : (M.put o ⟨(pre ++ (S.set i (stB n v i) ++ post)).map (.int .u8), .fixed⟩).get o = some ⟨(pre ++ (S.set i (stB n v i) ++ post)).map (.int .u8), .fixed⟩ := get_put_self (Mem.get_lt hg)
    obtain ⟨M', q1, q2, q3, q4⟩ := ih (i + 1) _ (S.set i (stB n v i)) (by omega) (by simpa using hS) hg2
    have hst' : M.st o (pre.length + i) [.int .u8 (IntKind.wrap .u8 (Int.fdiv v (2 ^ Nat.min (IntKind.wrap .i64 (8 * (IntKind.wrap .i64 ((IntKind.wrap .i64 ((n : Int) - 1)) - (i : Int))))).toNat (IntKind.bits .u64))))] = some (M.put o ⟨(pre ++ (S.set i (stB n v i) ++ post)).map (.int .u8), .fixed⟩) := hst
    simp only [h1, h0, h3, decide_true, decide_false, cond_true, cond_false, Int.toNat_natCast, h2, hs, Option.bind_some, Nat.mul_one, hst', hw] at hE
    exact ⟨M', hE.trans q1, q2, q3, (Mem.But.put _ _ _).trans q4 (fun _ _ h => h)⟩
theorem storeB_length {B : List Int} {at_ size v : Int} (h : askE B.length at_ size = 0) : (storeB B at_ size v).length = B.length := by
  have hb := askE_zero h
  unfold storeB
  simp only [List.length_append, stL_length, List.length_take, List.length_drop]
  omega
theorem PStore_C (h : IsP M p o B a t mv) (at_ size v : Int) :
    (askE B.length at_ size ≠ 0 ∧ C 27 [.ptr (some (p, 0)), .int .i64 at_, .int .i64 size, .int .u64 v] M = some (.int .i64 (askE B.length at_ size), M)) ∨
    (askE B.length at_ size = 0 ∧ ∃ M', C 27 [.ptr (some (p, 0)), .int .i64 at_, .int .i64 size, .int .u64 v] M = some (.int .i64 0, M') ∧ IsP M' p o (storeB B at_ size v) a t mv ∧ M'.n = M.n ∧ Mem.But (· = o) M M') := by
  have hE := p27_0_eq C prog.meth (some (p, 0)) at_ size v M
  simp only [Option.bind_some, List.getElem?_cons_zero, List.getElem?_cons_succ, int?_int, AVal.bool?, AVal.ptr?, AVal.sl?, AVal.tup?, AVal.agg?, AVal.ifc?, AVal.fn?, AVal.str?, List.head?_cons, List.tail_cons, List.isEmpty_nil, cond_true, cond_false, Option.isNone_some, Option.isNone_none, Bool.not_true, Bool.not_false, decide_true, decide_false, beq_self_eq_true, bne_self_eq_false, Int.reduceBEq, Int.reduceBNe, Int.cast_ofNat_Int, Pasked_C h at_ size] at hE
  by_cases he : askE B.length at_ size = 0
  rotate_left
  · have : (askE B.length at_ size != 0) = true := by simp [he]
    rw [this, cond_true] at hE
    exact .inl ⟨he, c27 hE⟩
  refine .inr ⟨he, ?_⟩
  have hb := askE_zero he
  have hsz := h.sz
  have hlen := storeB_length (v := v) he
  have : (askE B.length at_ size != 0) = false := by simp [he]
  rw [this, cond_false] at hE
  obtain ⟨k, rfl⟩ : ∃ k : Nat, at_ = (k : Int) := ⟨at_.toNat, by omega⟩
  obtain ⟨n, rfl⟩ : ∃ n : Nat, size = (n : Int) := ⟨size.toNat, by omega⟩
  obtain ⟨i, c1, c2⟩ := PPart h (k := k) (n := n) (by omega) (by omega)
  have hw : IntKind.wrap .i64 ((k : Int) + (n : Int)) = ((k + n : Nat) : Int) := by rw [wrap_i64 (by omega) (by omega)]; rfl
  obtain ⟨xs, ys, g, hx, hy⟩ := h.go
  have g' : M.get o = some ⟨((xs ++ B.take k) ++ ((B.drop k).take n ++ (B.drop (k + n) ++ ys))).map (.int .u8), .fixed⟩ := by
    rw [g]; congr 3
    rw [← List.drop_drop, ← List.append_assoc ((B.drop k).take n), List.take_append_drop, List.append_assoc, ← List.append_assoc (B.take k), List.take_append_drop]
  have hpl : (xs ++ B.take k).length = a + k := by simp; omega
  obtain ⟨M', q1, q2, q3, q4⟩ := store_loop (n := n) (v := v) (c := .known (B.length - k)) (pre := xs ++ B.take k) (post := B.drop (k + n) ++ ys) (by omega) rfl n 0 M ((B.drop k).take n) (by omega) (by simp; omega) g'
  rw [hpl] at q1
  have q1' : p27_1 C prog.meth (n : Int) v (some (o, a + k)) n (.known (B.length - k)) (n : Int) 0 M = some (.int .i64 0, M') := q1
  simp only [Option.bind_some, List.getElem?_cons_zero, List.getElem?_cons_succ, int?_int, AVal.bool?, AVal.ptr?, AVal.sl?, AVal.tup?, AVal.agg?, AVal.ifc?, AVal.fn?, AVal.str?, List.head?_cons, List.tail_cons, List.isEmpty_nil, cond_true, cond_false, Option.isNone_some, Option.isNone_none, Bool.not_true, Bool.not_false, decide_true, decide_false, beq_self_eq_true, bne_self_eq_false, Int.reduceBEq, Int.reduceBNe, Int.cast_ofNat_Int, c1, hw, c2, q1'] at hE
  refine ⟨M', c27 hE, ⟨by rw [hlen, q4.2 p h.lt.1 h.ne]; exact h.gp, ⟨xs, ys, ?_, hx, hy⟩, h.ne, by omega, by rw [hlen]; exact h.all⟩, q3, q4⟩
  rw [q2]
  unfold storeB
  simp only [Int.toNat_natCast, List.append_assoc]
end
end Go.Proofs.Ytfdlmneofbcpnaa.M
