/- The packages lease: what its functions answer. -/
import Derived.Test.YtndolnehppadnaaR
import Derived.Test.YtndolnehppadnaaXFc
set_option linter.unusedVariables false
set_option linter.unusedSimpArgs false
set_option linter.unnecessarySimpa false
namespace Go.Proofs.Ytndolnehppadnaa.M
open Go.Abs

theorem awake02_C : ∃ M', C 14 [] Mem.empty = some (.bool true, M') := whole_says (n := 400) (by kernel_rfl)

/-- Does a range lie within so many bytes? -/
def within (at_ n len : Int) : Bool := decide (at_ ≥ 0) && decide (n ≥ 0) && decide (at_ ≤ len) && decide (n ≤ IntKind.wrap .i64 (len - at_))
theorem within_iff {at_ n : Int} {l : Nat} (hl : l < 2 ^ 62) : within at_ n l = true ↔ 0 ≤ at_ ∧ 0 ≤ n ∧ at_ + n ≤ l := by
  unfold within
  simp only [Bool.and_eq_true, decide_eq_true_eq]
  constructor
  · rintro ⟨⟨⟨h1, h2⟩, h3⟩, h4⟩
    rw [wrap_i64 (by omega) (by omega)] at h4
    omega
  · rintro ⟨h1, h2, h3⟩
    rw [wrap_i64 (by omega) (by omega)]
    omega
theorem Within_C {at_ n len : Int} {M : Mem} : C 13 [.agg [.int .i64 at_, .int .i64 n], .int .i64 len] M = some (.bool (within at_ n len), M.alloc ⟨[.int .i64 at_, .int .i64 n], .fixed⟩) := by
  refine c13 ?_
  rw [p13_0_eq]
  simp only [Mem.ldI, Mem.ldB, Mem.ldS, Mem.ldP, Mem.ldL, Mem.ldM, Mem.ldF, Mem.ldN, Mem.ld, Mem.cells, AObj.live, Option.bind_some, List.getElem?_cons_zero, List.getElem?_cons_succ, int?_int, AVal.bool?, AVal.ptr?, AVal.sl?, AVal.tup?, AVal.agg?, AVal.ifc?, AVal.fn?, AVal.str?, List.head?_cons, List.tail_cons, List.isEmpty_nil, cond_true, cond_false, Option.isNone_some, Option.isNone_none, Nat.zero_add, Bool.not_true, Bool.not_false, decide_true, decide_false, get_alloc_self, get_alloc_lt, get_put_self, get_put_ne, beq_self_eq_true, bne_self_eq_false, slPtr]
  unfold within
  by_cases h1 : at_ ≥ 0 <;> by_cases h2 : n ≥ 0 <;> by_cases h3 : at_ ≤ len <;> simp [h1, h2, h3]
/-- A window: of the bytes a, l, c. -/
theorem Lend_C {a : Option (Nat × Nat)} {l : Nat} {c : Cap} {at_ n : Int} {M : Mem} (hr : M.room 1 a c l = true) (hl : l < 2 ^ 62) (h1 : at_ < 2 ^ 63) (h2 : n < 2 ^ 63) :
    C 12 [.sl a l c, .agg [.int .i64 at_, .int .i64 n]] M = some (if within at_ n l = true then
      .tup [.sl (cond (Nat.beq (at_.toNat + n.toNat) at_.toNat) a (adv a (at_.toNat * 1))) n.toNat (.known n.toNat), .int .i64 0] else .tup [.sl none 0 (.known 0), .int .i64 20], M.alloc ⟨[.int .i64 at_, .int .i64 n], .fixed⟩) := by
  refine c12 ?_
  rw [p12_0_eq]
  simp only [Mem.ldI, Mem.ldB, Mem.ldS, Mem.ldP, Mem.ldL, Mem.ldM, Mem.ldF, Mem.ldN, Mem.ld, Mem.cells, AObj.live, Option.bind_some, List.getElem?_cons_zero, List.getElem?_cons_succ, int?_int, AVal.bool?, AVal.ptr?, AVal.sl?, AVal.tup?, AVal.agg?, AVal.ifc?, AVal.fn?, AVal.str?, List.head?_cons, List.tail_cons, List.isEmpty_nil, cond_true, cond_false, Option.isNone_some, Option.isNone_none, Nat.zero_add, Bool.not_true, Bool.not_false, decide_true, decide_false, get_alloc_self, get_alloc_lt, get_put_self, get_put_ne, beq_self_eq_true, bne_self_eq_false, slPtr]
  unfold within
  by_cases g1 : at_ < 0
  · have : ¬ at_ ≥ 0 := by omega
    simp [g1, this]
  have g1' : at_ ≥ 0 := by omega
  by_cases g2 : n < 0
  · have : ¬ n ≥ 0 := by omega
    simp [g1, g2, this]
  have g2' : n ≥ 0 := by omega
  by_cases g3 : at_ > (l : Int)
  · have : ¬ at_ ≤ (l : Int) := by omega
    simp [g1, g2, g3, this]
  have g3' : at_ ≤ (l : Int) := by omega
  have hw : IntKind.wrap .i64 ((l : Int) - at_) = (l : Int) - at_ := wrap_i64 (by omega) (by omega)
  by_cases g4 : n > (l : Int) - at_
  · have : ¬ n ≤ (l : Int) - at_ := by omega
    simp [g1, g2, g3, g4, hw, this]
  have g4' : n ≤ (l : Int) - at_ := by omega
  have hsum : IntKind.wrap .i64 (at_ + n) = at_ + n := wrap_i64 (by omega) (by omega)
  simp only [g1, g2, g3, g4, hw, decide_false, cond_false, g1', g2', g3', g4', decide_true, Bool.and_self, if_true]
  rw [p12_1_eq]
  simp only [Mem.ldI, Mem.ldB, Mem.ldS, Mem.ldP, Mem.ldL, Mem.ldM, Mem.ldF, Mem.ldN, Mem.ld, Mem.cells, AObj.live, Option.bind_some, List.getElem?_cons_zero, List.getElem?_cons_succ, int?_int, AVal.bool?, AVal.ptr?, AVal.sl?, AVal.tup?, AVal.agg?, AVal.ifc?, AVal.fn?, AVal.str?, List.head?_cons, List.tail_cons, List.isEmpty_nil, cond_true, cond_false, Option.isNone_some, Option.isNone_none, Nat.zero_add, Bool.not_true, Bool.not_false, decide_true, decide_false, get_alloc_self, get_alloc_lt, get_put_self, get_put_ne, beq_self_eq_true, bne_self_eq_false, slPtr, hsum]
  obtain ⟨x, rfl⟩ := Int.eq_ofNat_of_zero_le g1'
  obtain ⟨y, rfl⟩ := Int.eq_ofNat_of_zero_le g2'
  have hroom : (M.alloc ⟨[.int .i64 (x : Int), .int .i64 (y : Int)], .fixed⟩).room 1 a c (x + y) = true := room_alloc _ (room_le hr (by omega))
  have hcast : ((x : Int) + (y : Int)) = ((x + y : Nat) : Int) := by omega
  rw [hcast, slcK_3 hroom (by omega) (by omega)]
  simp

/-- Each byte of a window is turned, and turned back. -/
theorem turn_turn {x : Int} (h : 0 ≤ x) (h' : x < 256) : IntKind.wrap .u8 ((BitVec.ofInt (IntKind.bits .u8) (IntKind.wrap .u8 ((BitVec.ofInt (IntKind.bits .u8) x ^^^ BitVec.ofInt (IntKind.bits .u8) 90).toNat)) ^^^ BitVec.ofInt (IntKind.bits .u8) 90).toNat) = x := by
  obtain ⟨n, rfl⟩ := Int.eq_ofNat_of_zero_le h
  have hn : n < 256 := by omega
  revert hn
  have : ∀ m : Fin 256, IntKind.wrap .u8 ((BitVec.ofInt (IntKind.bits .u8) (IntKind.wrap .u8 ((BitVec.ofInt (IntKind.bits .u8) ((m.val : Nat) : Int) ^^^ BitVec.ofInt (IntKind.bits .u8) 90).toNat)) ^^^ BitVec.ofInt (IntKind.bits .u8) 90).toNat) = ((m.val : Nat) : Int) := by decide +kernel
  intro hn
  exact this ⟨n, hn⟩
abbrev turned (x : Int) : Int := IntKind.wrap .u8 ((BitVec.ofInt (IntKind.bits .u8) x ^^^ BitVec.ofInt (IntKind.bits .u8) 90).toNat)

theorem over_loop {o j i0 n : Nat} {xs : List Int} {kd : OKind} {l : Nat} {ca : Cap} {wa : Option (Nat × Nat)} {oc : Nat} {ca' : Cap} {la : Nat} {aa : Option (Nat × Nat)} {at_ : Nat}
    (hb : ∀ x ∈ xs, 0 ≤ x ∧ x < 256) (hm : kd.mine = true) (hl : l ≤ xs.length) (hn : at_ + n ≤ l) (hl2 : l < 2 ^ 47) (hwa : 0 < n → wa = some (o, at_)) (hca : slPtr (some (o, 0)) ca = some (o, 0)) {c2 : Cap} {was : Option (Nat × Nat)} :
    ∀ (d i : Nat) (M : Mem), i + d = n → M.get o = some ⟨xs.map (.int .u8), kd⟩ → M.get oc = some ⟨[.int .i64 (at_ : Int), .int .i64 (n : Int)], .fixed⟩ → M.ints .u8 was l c2 = some (xs.take l) → (∀ q, was = some q → q.1 ≠ o) → oc ≠ o →
      ∃ M', p15_2 C prog.meth (some (o, 0)) l ca wa n (.known n) oc was l c2 i M = some (.bool true, M') ∧ M.Upto M' := by
  intro d
  induction d with
  | zero =>
    intro i M hi hg hbox hwas hne hne2
    have hlt := Mem.get_lt hg
    have hltb := Mem.get_lt hbox
    rw [p15_2_eq]
    have h1 : ¬ ((i : Int) < (n : Int)) := by omega
    simp only [h1, decide_false, cond_false]
    have hw1 : (M.alloc ⟨[.int .u8 238], .fixed⟩).raws 1 wa n (.known n) = some (((xs.drop at_).take n).map (.int .u8)) := by
      rw [← ints_raws]
      by_cases h0 : 0 < n
      · rw [hwa h0]
        exact ints_part (get_alloc_of hg) (mine_live hm) rfl (by omega)
      · have : n = 0 := by omega
        subst this; rfl
    have hw2 : (M.alloc ⟨[.int .u8 238], .fixed⟩).raws 1 (some (M.n, 0)) 1 (.known 1) = some [.int .u8 238] := by
      have := ints_raws.1 (ints_whole (k := .u8) (xs := [238]) (c := .known 1) (get_alloc_self M ⟨[.int .u8 238], .fixed⟩) (by simp) rfl)
      exact this
    rw [appK_more hw1 hw2 (by omega) (by omega)]
    have h3 : IntKind.wrap .i64 ((n : Int) + 1) = ((n + 1 : Nat) : Int) := by rw [wrap_i64 (by omega) (by omega)]; rfl
    have hx : ((M.alloc ⟨[.int .u8 238], .fixed⟩).alloc ⟨((xs.drop at_).take n).map (.int .u8) ++ [.int .u8 238], .grow 1⟩).ints .u8 (some (o, 0)) l ca = some (xs.take l) := by
      have := ints_part (k := .u8) (i := 0) (l := l) (c := ca) (get_alloc_of (x := ⟨((xs.drop at_).take n).map (.int .u8) ++ [.int .u8 238], .grow 1⟩) (get_alloc_of (x := ⟨[.int .u8 238], .fixed⟩) hg)) (mine_live hm) hca (by omega)
      simpa using this
    have hy := ints_upto hwas ((Mem.Upto.alloc M ⟨[.int .u8 238], .fixed⟩).alloc_r ⟨((xs.drop at_).take n).map (.int .u8) ++ [.int .u8 238], .grow 1⟩)
    simp (disch := (try simp only [Mem.n_alloc, Mem.n_put]); omega) only [Mem.ldI, Mem.ldB, Mem.ldS, Mem.ldP, Mem.ldL, Mem.ldM, Mem.ldF, Mem.ldN, Mem.ld, Mem.cells, AObj.live, Option.bind_some, List.getElem?_cons_zero, List.getElem?_cons_succ, int?_int, AVal.bool?, AVal.ptr?, AVal.sl?, AVal.tup?, AVal.agg?, AVal.ifc?, AVal.fn?, AVal.str?, List.head?_cons, List.tail_cons, List.isEmpty_nil, cond_true, cond_false, Option.isNone_some, Option.isNone_none, Nat.zero_add, Bool.not_true, Bool.not_false, decide_true, decide_false, get_alloc_self, get_alloc_lt, get_put_self, get_put_ne, beq_self_eq_true, bne_self_eq_false, slPtr, hbox, h3, EqBytes_C hx hy (by omega), decide_true]
    exact ⟨_, rfl, (Mem.Upto.alloc M _).alloc_r _⟩
  | succ d ih =>
    intro i M hi hg hbox hwas hne hne2
    have hlt := Mem.get_lt hg
    have hltb := Mem.get_lt hbox
    rw [p15_2_eq]
    have h1 : (i : Int) < (n : Int) := by omega
    have h2 : Nat.blt i n = true := Mem.blt_iff.2 (by omega)
    rw [hwa (by omega)]
    have hx : (xs.map (AVal.int .u8))[at_ + i]? = some (.int .u8 xs[at_ + i]) := by simp [List.getElem?_eq_getElem (show at_ + i < xs.length by omega)]
    have hxb := hb xs[at_ + i] (List.getElem_mem _)
    have hld : M.ldI .u8 o (at_ + i * 1) = some xs[at_ + i] := by rw [Nat.mul_one]; exact ldI_ld.2 (by rw [ld_of hg (mine_live hm)]; exact hx)
    have hst := st_mine (i := at_ + i * 1) (vs := [.int .u8 (turned xs[at_ + i])]) hg hm (by simp; omega)
    rw [overL_one, Nat.mul_one] at hst
    generalize hM2 : M.put o ⟨(xs.map (AVal.int .u8)).set (at_ + i) (.int .u8 (turned xs[at_ + i])), kd⟩ = M2 at hst
    have hg2 : M2.get o = some ⟨(xs.map (AVal.int .u8)).set (at_ + i) (.int .u8 (turned xs[at_ + i])), kd⟩ := by rw [← hM2]; exact get_put_self hlt
    have hbut2 : ∀ q, q ≠ o → M2.get q = M.get q := by intro q hq; rw [← hM2]; exact get_put_ne hq
    have hn2 : M2.n = M.n := by rw [← hM2]; rfl
    have hbox2 : M2.get oc = some ⟨[.int .i64 (at_ : Int), .int .i64 (n : Int)], .fixed⟩ := (hbut2 oc hne2).trans hbox
    have hw3 : IntKind.wrap .i64 ((at_ : Int) + (i : Int)) = ((at_ + i : Nat) : Int) := by rw [wrap_i64 (by omega) (by omega)]; rfl
    have h4 : Nat.blt (at_ + i) l = true := Mem.blt_iff.2 (by omega)
    have hlm : at_ + i < (xs.map (AVal.int .u8)).length := by rw [List.length_map]; omega
    have hld2 : M2.ldI .u8 o (at_ + i) = some (turned xs[at_ + i]) := by
      refine ldI_ld.2 ?_
      rw [ld_of hg2 (mine_live hm), List.getElem?_set, if_pos rfl, if_pos hlm]
    have hwas2 : M2.ints .u8 was l c2 = some (xs.take l) := by
      rw [ints_same, hwas]
      intro p hp
      exact hbut2 p.1 (hne p hp)
    obtain ⟨p, hp, hpv⟩ := (ints_iff.1 hwas2).2 (at_ + i) (by omega)
    rw [List.getElem?_take, if_pos (by omega), List.getElem?_eq_getElem (by omega)] at hpv
    have hpv' : M2.ldI .u8 p.1 (p.2 + (at_ + i) * 1) = some xs[at_ + i] := by rw [Nat.mul_one]; exact hpv
    have hst2 := st_mine (i := at_ + i * 1) (vs := [.int .u8 xs[at_ + i]]) hg2 hm (by simp; omega)
    rw [overL_one, Nat.mul_one, List.set_set] at hst2
    have hback : (xs.map (AVal.int .u8)).set (at_ + i) (.int .u8 xs[at_ + i]) = xs.map (AVal.int .u8) := by
      apply List.ext_getElem?
      intro q
      rw [List.getElem?_set]
      by_cases e : at_ + i = q
      · subst e; rw [if_pos rfl, if_pos hlm, hx]
      · rw [if_neg e]
    rw [hback] at hst2
    have hw : IntKind.wrap .i64 ((i : Int) + 1) = ((i + 1 : Nat) : Int) := by rw [wrap_i64 (by omega) (by omega)]; rfl
    have hboxI : M2.ldI .i64 oc 0 = some (at_ : Int) := by simp [Mem.ldI, Mem.ld, Mem.cells, hbox2, AObj.live]
    have hslp : slPtr (some (o, at_)) (.known n) = some (o, at_) := rfl
    have htt := turn_turn hxb.1 hxb.2
    rw [Nat.mul_one] at hld hpv'
    simp only [h1, decide_true, cond_true, Int.natCast_nonneg, Int.toNat_natCast, h2, hslp, Option.bind_some, hld, hst, hboxI, hw3, h4, hca, Nat.zero_add, hld2, hp, hpv', bne_self_eq_false, cond_false, Nat.mul_one, htt, hst2, hw]
    obtain ⟨M', hM', hu⟩ := ih (i + 1) (M2.put o ⟨xs.map (AVal.int .u8), kd⟩) (by omega) (get_put_self (by omega)) ((get_put_ne hne2).trans hbox2) (by
      rw [ints_same, hwas2]
      intro p hp
      exact get_put_ne (hne p hp)) hne hne2
    refine ⟨M', by rw [← hwa (by omega)]; exact hM', ?_⟩
    refine Mem.Upto.trans ⟨by simp [hn2], fun q hq => ?_⟩ hu
    by_cases e : q = o
    · subst e; rw [get_put_self (by omega), hg]
    · rw [get_put_ne e, hbut2 q e]
/-- A window is just the bytes of its range: of an object that may be written. -/
theorem over_C {o n at_ l : Nat} {xs : List Int} {M : Mem} {wa : Option (Nat × Nat)} (hg : M.get o = some ⟨xs.map (.int .u8), .grow 1⟩) (hb : ∀ x ∈ xs, 0 ≤ x ∧ x < 256) (hl : l ≤ xs.length) (hn : at_ + n ≤ l) (hl2 : l < 2 ^ 47) (hwa : 0 < n → wa = some (o, at_)) :
    ∃ M', C 15 [.sl (some (o, 0)) l (.unk 0), .sl wa n (.known n), .agg [.int .i64 (at_ : Int), .int .i64 (n : Int)]] M = some (.bool true, M') ∧ M.Upto M' := by
  have hlt := Mem.get_lt hg
  have hg1 := get_alloc_of (x := ⟨[.int .i64 (at_ : Int), .int .i64 (n : Int)], .fixed⟩) hg
  have hsum : IntKind.wrap .i64 ((at_ : Int) + (n : Int)) = ((at_ + n : Nat) : Int) := by rw [wrap_i64 (by omega) (by omega)]; rfl
  have hw : (M.alloc ⟨[.int .i64 (at_ : Int), .int .i64 (n : Int)], .fixed⟩).ints .u8 wa n (.known n) = some ((xs.drop at_).take n) := by
    by_cases h0 : 0 < n
    · rw [hwa h0]
      exact ints_part hg1 (by simp) rfl (by omega)
    · have : n = 0 := by omega
      subst this; rfl
  have main : p15_1 C prog.meth (some (o, 0)) l (.unk 0) wa n (.known n) M.n (M.alloc ⟨[.int .i64 (at_ : Int), .int .i64 (n : Int)], .fixed⟩) = p15_0 C prog.meth (some (o, 0)) l (.unk 0) wa n (.known n) at_ n M := by
    symm
    rw [p15_0_eq]
    simp only [Mem.ldI, Mem.ldB, Mem.ldS, Mem.ldP, Mem.ldL, Mem.ldM, Mem.ldF, Mem.ldN, Mem.ld, Mem.cells, AObj.live, Option.bind_some, List.getElem?_cons_zero, List.getElem?_cons_succ, int?_int, AVal.bool?, AVal.ptr?, AVal.sl?, AVal.tup?, AVal.agg?, AVal.ifc?, AVal.fn?, AVal.str?, List.head?_cons, List.tail_cons, List.isEmpty_nil, cond_true, cond_false, Option.isNone_some, Option.isNone_none, Nat.zero_add, Bool.not_true, Bool.not_false, decide_true, decide_false, get_alloc_self, get_alloc_lt, get_put_self, get_put_ne, beq_self_eq_true, bne_self_eq_false, slPtr, hsum]
    rw [slcK_own hg1 (.inl rfl) (by simp; omega) (by omega)]
    have e : at_ + n - at_ = n := by omega
    by_cases hz : (Nat.beq at_ (at_ + n) && Nat.blt 0 at_) = true
    · have hz1 : n = 0 := by
        simp only [Bool.and_eq_true] at hz
        have := Nat.eq_of_beq_eq_true hz.1
        omega
      rw [hz]
      simp only [cond_true, EqBytes_C hw (ints_zero _ .u8 (some (o, 0)) (.fin at_ (at_ * 1))) (by omega)]
      simp [AVal.bool?, hz1]
    · have hz : (Nat.beq at_ (at_ + n) && Nat.blt 0 at_) = false := Bool.eq_false_iff.2 hz
      rw [hz]
      have hc := cut_ints (l := at_) (h := at_ + n) hg1 (by simp) (by omega) (by omega)
      rw [e] at hc
      simp only [cond_false, e, Nat.mul_one, EqBytes_C hw hc (by omega)]
      simp [AVal.bool?]
  obtain ⟨M2, a2, c2, hM2, hu2, hwas, hne⟩ : ∃ M2 a2 c2, C 11 [.sl (some (o, 0)) l (.unk 0)] (M.alloc ⟨[.int .i64 (at_ : Int), .int .i64 (n : Int)], .fixed⟩) = some (.sl a2 l c2, M2) ∧ (M.alloc ⟨[.int .i64 (at_ : Int), .int .i64 (n : Int)], .fixed⟩).Upto M2 ∧
      M2.ints .u8 a2 l c2 = some (xs.take l) ∧ ∀ q, a2 = some q → q.1 ≠ o := by
    have hx : (M.alloc ⟨[.int .i64 (at_ : Int), .int .i64 (n : Int)], .fixed⟩).ints .u8 (some (o, 0)) l (.unk 0) = some (xs.take l) := by
      have := ints_part (i := 0) (l := l) (c := .unk 0) hg1 (by simp) rfl (by omega)
      simpa using this
    have := CopyBytes_C hx (by omega)
    by_cases h0 : l = 0
    · subst h0
      exact ⟨_, _, _, this, Mem.Upto.refl _, rfl, fun q hq => by cases hq⟩
    · rw [if_neg h0] at this
      have hlen : (xs.take l).length = l := by simp; omega
      refine ⟨_, _, _, this, Mem.Upto.alloc _ _, ?_, fun q hq => ?_⟩
      · have h3 := ints_whole (c := .unk 0) (get_alloc_self (M.alloc ⟨[.int .i64 (at_ : Int), .int .i64 (n : Int)], .fixed⟩) ⟨(xs.take l).map (.int .u8), .grow 1⟩) (by simp) rfl
        rw [hlen] at h3
        exact h3
      · obtain rfl := Option.some.inj hq
        simp only [Mem.n_alloc]; omega
  obtain ⟨M', hM', hu⟩ := over_loop (oc := M.n) (ca := .unk 0) (aa := none) (la := 0) (ca' := .odd) (i0 := 0) (j := 0) hb (by rfl) hl hn hl2 hwa rfl n 0 M2 (by omega) (hu2.get hg1) (hu2.get (get_alloc_self _ _)) hwas hne (by omega)
  refine ⟨M', c15 ?_, ((Mem.Upto.alloc _ _).trans hu2).trans hu⟩
  rw [← main, p15_1_eq, hM2]
  simp only [Option.bind_some, AVal.sl?]
  exact hM'

theorem LeaseLends_C {a : Option (Nat × Nat)} {l : Nat} {c : Cap} {xs : List Int} {at_ n : Int} {M : Mem} (hx : M.ints .u8 a l c = some xs) (hb : ∀ x ∈ xs, 0 ≤ x ∧ x < 256) (hl : l ≤ 140737488351232) (h1 : at_ < 2 ^ 63) (h2 : n < 2 ^ 63) :
    ∃ M', C 3 [.sl a l c, .agg [.int .i64 at_, .int .i64 n]] M = some (.bool true, M') ∧ M.Upto M' := by
  obtain ⟨Ma, hawake⟩ := awake02_C
  have hlx := ints_length hx
  -- the bytes, with three more behind them
  have key : ∃ (o : Nat) (M2 : Mem), (M.alloc ⟨[.int .i64 at_, .int .i64 n], .fixed⟩).Upto M2 ∧ M2.get o = some ⟨(xs ++ [1, 2, 3]).map (.int .u8), .grow 1⟩ ∧ ∀ (K : Option (Nat × Nat) → Nat → Cap → Mem → Option (AVal × Mem)),
      (Option.bind (C 11 [.sl a l c] (M.alloc ⟨[.int .i64 at_, .int .i64 n], .fixed⟩)) fun r102 => (Option.bind (r102.1.sl?) fun x103 => (let M104 := r102.2.alloc ⟨[.int .u8 1, .int .u8 2, .int .u8 3], .fixed⟩; (appK false 1 1 M104 x103.1 x103.2.1 x103.2.2 (.sl (some (r102.2.n, 0)) 3 (.known 3)) K)))) = K (some (o, 0)) (l + 3) (.unk 0) M2 := by
    have hx1 := ints_upto hx (Mem.Upto.alloc M ⟨[.int .i64 at_, .int .i64 n], .fixed⟩)
    generalize M.alloc ⟨[.int .i64 at_, .int .i64 n], .fixed⟩ = M1 at hx1 ⊢
    have hcp := CopyBytes_C hx1 (by omega)
    by_cases h0 : l = 0
    · subst h0
      have hxs : xs = [] := List.length_eq_zero_iff.1 hlx
      subst hxs
      rw [if_pos rfl] at hcp
      refine ⟨_, _, ((Mem.Upto.alloc M1 ⟨[.int .u8 1, .int .u8 2, .int .u8 3], .fixed⟩).alloc_r ⟨[] ++ [.int .u8 1, .int .u8 2, .int .u8 3], .grow 1⟩), get_alloc_self _ _, fun K => ?_⟩
      rw [hcp]
      simp only [Option.bind_some, AVal.sl?]
      have hy := ints_raws.1 (ints_whole (k := .u8) (xs := [1, 2, 3]) (c := .known 3) (get_alloc_self M1 ⟨[.int .u8 1, .int .u8 2, .int .u8 3], .fixed⟩) (by simp) rfl)
      exact appK_more (xs := []) rfl hy (by simp) (by simp)
    · rw [if_neg h0] at hcp
      have hy := ints_raws.1 (ints_whole (k := .u8) (xs := [1, 2, 3]) (c := .known 3) (get_alloc_self (M1.alloc ⟨xs.map (.int .u8), .grow 1⟩) ⟨[.int .u8 1, .int .u8 2, .int .u8 3], .fixed⟩) (by simp) rfl)
      have hg := get_alloc_of (x := ⟨[.int .u8 1, .int .u8 2, .int .u8 3], .fixed⟩) (get_alloc_self M1 ⟨xs.map (.int .u8), .grow 1⟩)
      have h4 : xs.map (AVal.int .u8) ++ [.int .u8 1, .int .u8 2, .int .u8 3] = (xs ++ [1, 2, 3]).map (.int .u8) := by simp
      refine ⟨_, ((((M1.alloc ⟨xs.map (.int .u8), .grow 1⟩).alloc ⟨[.int .u8 1, .int .u8 2, .int .u8 3], .fixed⟩).put M1.n ⟨[], .dead⟩).alloc ⟨(xs ++ [1, 2, 3]).map (.int .u8), .grow 1⟩), ⟨by simp; omega, fun q hq => ?_⟩, get_alloc_self _ _, fun K => ?_⟩
      · rw [get_alloc_lt (by simp; omega), get_put_ne (by omega), get_alloc_lt (by simp; omega), get_alloc_lt (by omega)]
      · rw [hcp]
        simp only [Option.bind_some, AVal.sl?]
        refine (appK_grow hg (by omega) (by simp [hlx]) hy (by simp) (by simp; omega)).trans ?_
        simp only [List.map_cons, List.map_nil, h4]
        rfl
  obtain ⟨o, M2, hu, hg, hK⟩ := key
  have hbox : M2.get M.n = some ⟨[.int .i64 at_, .int .i64 n], .fixed⟩ := hu.get (get_alloc_self _ _)
  have hx2 := ints_upto hx ((Mem.Upto.alloc _ _).trans hu)
  have hlen : (xs ++ [1, 2, 3]).length = l + 3 := by simp [hlx]
  have hb3 : ∀ x ∈ xs ++ [1, 2, 3], 0 ≤ x ∧ x < 256 := by
    intro x hx
    rcases List.mem_append.1 hx with h | h
    · exact hb x h
    · simp at h; omega
  have hroom : M2.room 1 (some (o, 0)) (.unk 0) l = true := room_own hg (.inl rfl) (by simp; omega)
  have hlt := Mem.get_lt hg
  have hltb := Mem.get_lt hbox
  have hL := Lend_C (at_ := at_) (n := n) hroom (by omega) h1 h2
  suffices h : ∃ M', p3_0 C prog.meth a l c at_ n M = some (.bool true, M') ∧ M.Upto M' by
    obtain ⟨M', h, h'⟩ := h
    exact ⟨M', c3 h, h'⟩
  have hu0 : M.Upto M2 := (Mem.Upto.alloc _ _).trans hu
  rw [p3_0_eq]
  dsimp only
  rw [hK, slcK_own_to hg (.inl rfl) (by simp; omega)]
  generalize hM3 : M2.alloc ⟨[.int .i64 at_, .int .i64 n], .fixed⟩ = M3 at hL
  have hu3 : M2.Upto M3 := by rw [← hM3]; exact Mem.Upto.alloc _ _
  have hbox3 := hu3.get hbox
  have hg3 := hu3.get hg
  have hx3 := ints_upto hx2 hu3
  by_cases hw : within at_ n l = true
  · rw [if_pos hw] at hL
    obtain ⟨g1, g2, g3⟩ := (within_iff (by omega)).1 hw
    obtain ⟨x, rfl⟩ := Int.eq_ofNat_of_zero_le g1
    obtain ⟨y, rfl⟩ := Int.eq_ofNat_of_zero_le g2
    have hw3 : IntKind.wrap .i64 ((l : Int) + 3) = ((l + 3 : Nat) : Int) := by rw [wrap_i64 (by omega) (by omega)]; rfl
    simp only [Int.toNat_natCast] at hL
    obtain ⟨M4, hover, hu4⟩ := over_C (n := y) (at_ := x) (l := l) (wa := cond (Nat.beq (x + y) x) (some (o, 0)) (adv (some (o, 0)) (x * 1))) hg3 hb3 (by omega) (by omega) (by omega) (by
      intro h0
      rw [Go.Abs.beq_false (by omega), cond_false]
      simp [adv])
    have hx4 := ints_upto hx3 hu4
    have hg4 := hu4.get hg3
    have hin : M4.ints .u8 (some (o, 0)) l (.unk 0) = some xs := by
      have := ints_part (i := 0) (l := l) (c := .unk 0) hg4 (by simp) rfl (by omega)
      rw [List.drop_zero, ← hlx, List.take_left] at this
      rwa [hlx] at this
    have hE := EqBytes_C hin hx4 (by omega)
    have hg5 := get_alloc_of (x := ⟨[.int .u8 1, .int .u8 2, .int .u8 3], .fixed⟩) hg4
    have hy : (M4.alloc ⟨[.int .u8 1, .int .u8 2, .int .u8 3], .fixed⟩).ints .u8 (some (M4.n, 0)) 3 (.known 3) = some [1, 2, 3] := ints_whole (k := .u8) (xs := [1, 2, 3]) (c := .known 3) (get_alloc_self M4 ⟨[.int .u8 1, .int .u8 2, .int .u8 3], .fixed⟩) (by simp) rfl
    have hsp : (M4.alloc ⟨[.int .u8 1, .int .u8 2, .int .u8 3], .fixed⟩).ints .u8 (some (o, l)) 3 (.unk l) = some [1, 2, 3] := by
      have := cut_ints (l := l) (h := l + 3) hg5 (by simp) (by omega) (by omega)
      rw [show l + 3 - l = 3 from by omega, ← hlx, List.drop_left] at this
      rw [← hlx]
      exact this
    simp (disch := (try simp only [Mem.n_alloc, Mem.n_put]); omega) only [Mem.ldI, Mem.ldB, Mem.ldS, Mem.ldP, Mem.ldL, Mem.ldM, Mem.ldF, Mem.ldN, Mem.ld, Mem.cells, AObj.live, Option.bind_some, List.getElem?_cons_zero, List.getElem?_cons_succ, int?_int, AVal.bool?, AVal.ptr?, AVal.sl?, AVal.tup?, AVal.agg?, AVal.ifc?, AVal.fn?, AVal.str?, List.head?_cons, List.tail_cons, List.isEmpty_nil, cond_true, cond_false, Option.isNone_some, Option.isNone_none, Nat.zero_add, Bool.not_true, Bool.not_false, decide_true, decide_false, get_alloc_self, get_alloc_lt, get_put_self, get_put_ne, beq_self_eq_true, bne_self_eq_false, slPtr, hbox, hL, hbox3, Within_C, hw, hw3]
    rw [slcK_own_to hg3 (.inl rfl) (by simp; omega)]
    simp (disch := (try simp only [Mem.n_alloc, Mem.n_put]); omega) only [Mem.ldI, Mem.ldB, Mem.ldS, Mem.ldP, Mem.ldL, Mem.ldM, Mem.ldF, Mem.ldN, Mem.ld, Mem.cells, AObj.live, Option.bind_some, List.getElem?_cons_zero, List.getElem?_cons_succ, int?_int, AVal.bool?, AVal.ptr?, AVal.sl?, AVal.tup?, AVal.agg?, AVal.ifc?, AVal.fn?, AVal.str?, List.head?_cons, List.tail_cons, List.isEmpty_nil, cond_true, cond_false, Option.isNone_some, Option.isNone_none, Nat.zero_add, Bool.not_true, Bool.not_false, decide_true, decide_false, get_alloc_self, get_alloc_lt, get_put_self, get_put_ne, beq_self_eq_true, bne_self_eq_false, slPtr, hbox3, hover, hE]
    rw [slcK_own_from hg4 (.inl rfl) (by simp; omega) (by omega), Go.Abs.beq_false (by omega), Bool.false_and, cond_false, show l + 3 - l = 3 from by omega, Nat.mul_one]
    simp (disch := (try simp only [Mem.n_alloc, Mem.n_put]); omega) only [Mem.ldI, Mem.ldB, Mem.ldS, Mem.ldP, Mem.ldL, Mem.ldM, Mem.ldF, Mem.ldN, Mem.ld, Mem.cells, AObj.live, Option.bind_some, List.getElem?_cons_zero, List.getElem?_cons_succ, int?_int, AVal.bool?, AVal.ptr?, AVal.sl?, AVal.tup?, AVal.agg?, AVal.ifc?, AVal.fn?, AVal.str?, List.head?_cons, List.tail_cons, List.isEmpty_nil, cond_true, cond_false, Option.isNone_some, Option.isNone_none, Nat.zero_add, Bool.not_true, Bool.not_false, decide_true, decide_false, get_alloc_self, get_alloc_lt, get_put_self, get_put_ne, beq_self_eq_true, bne_self_eq_false, slPtr, EqBytes_C hsp hy (by omega), hawake]
    exact ⟨_, rfl, ((hu0.trans hu3).trans hu4).alloc_r _⟩
  · rw [if_neg hw] at hL
    have hw : within at_ n l = false := by simpa using hw
    simp (disch := (try simp only [Mem.n_alloc, Mem.n_put]); omega) only [Mem.ldI, Mem.ldB, Mem.ldS, Mem.ldP, Mem.ldL, Mem.ldM, Mem.ldF, Mem.ldN, Mem.ld, Mem.cells, AObj.live, Option.bind_some, List.getElem?_cons_zero, List.getElem?_cons_succ, int?_int, AVal.bool?, AVal.ptr?, AVal.sl?, AVal.tup?, AVal.agg?, AVal.ifc?, AVal.fn?, AVal.str?, List.head?_cons, List.tail_cons, List.isEmpty_nil, cond_true, cond_false, Option.isNone_some, Option.isNone_none, Nat.zero_add, Bool.not_true, Bool.not_false, decide_true, decide_false, get_alloc_self, get_alloc_lt, get_put_self, get_put_ne, beq_self_eq_true, bne_self_eq_false, slPtr, hbox, hL, hbox3, Within_C, hw, hawake]
    exact ⟨_, rfl, hu0.trans hu3⟩
theorem LeaseLends_law : ∀ avs M, M.Whole → okL M.n avs → ShowsArgs M [(false, [.sl 1 [.int .u8]]), (true, [.int .i64, .int .i64])] avs → ∃ M', C 3 avs M = some (.bool true, M') := by
  intro avs M hM hok h
  simp only [ShowsArgs, ShowsArg, ShowsR] at h
  obtain ⟨v, _, rfl, ⟨t, ht, hv⟩, w, _, rfl, ⟨ws, rfl, u1, us, rfl, hu1, u2, us2, rfl, hu2, rfl⟩, rfl⟩ := h
  obtain rfl : t = .sl 1 [.int .u8] := by simpa using ht.symm
  obtain ⟨a, l, c, xs, rfl, hx, hl, hw⟩ := hv.ints
  simp only [Shows] at hu1 hu2
  obtain ⟨n1, rfl, h1⟩ := hu1
  obtain ⟨n2, rfl, h2⟩ := hu2
  have := i64_bounds h1
  have := i64_bounds h2
  obtain ⟨M', h, _⟩ := LeaseLends_C hx (fun x hx => u8_bounds (hw x hx)) (by simpa [reachBytes] using hl) (show n1 < 2 ^ 63 by omega) (show n2 < 2 ^ 63 by omega)
  exact ⟨M', h⟩
end Go.Proofs.Ytndolnehppadnaa.M
