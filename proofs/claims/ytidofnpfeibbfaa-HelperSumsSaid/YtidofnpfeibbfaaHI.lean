/- HelperSums: the law. -/
import Derived.Test.YtidofnpfeibbfaaHG
set_option linter.unusedVariables false
set_option linter.unusedSimpArgs false
set_option linter.unnecessarySimpa false
set_option maxRecDepth 100000
namespace Go.Proofs.Ytidofnpfeibbfaa.M
open Go.Abs Go.RowKit

section
variable {M0 M : Mem} {role : Nat → Rj} {gs : List Gp} {B : List Int} {A T mv s hd : Nat} {cs : List AVal}
theorem sum2_C {v w : SlV} {xs ys : List Int} (h : M.ints .u8 v.1 v.2.1 v.2.2 = some xs) (h' : M.ints .u8 w.1 w.2.1 w.2.2 = some ys) (hw : wfB xs) (hw' : wfB ys) (hl : v.2.1 ≤ 4096) (hl' : w.2.1 ≤ 4096) (he : wsum 0 xs % 65535 = wsum 0 ys % 65535) :
    ∃ r r' : Int, C 19 [.sl v.1 v.2.1 v.2.2] M = some (.int .u16 r, M) ∧ C 19 [.sl w.1 w.2.1 w.2.2] M = some (.int .u16 r', M) ∧ C 18 [.int .u16 r, .int .u16 r'] Mem.empty = some (.bool true, Mem.empty) := by
  obtain ⟨r, r1, r2⟩ := Sum_C h hw hl
  obtain ⟨r', r1', r2'⟩ := Sum_C h' hw' hl'
  exact ⟨r, r', r1, r1', Same16_C (by omega)⟩
theorem wfB_drop {xs : List Int} (h : wfB xs) (m n : Nat) : wfB ((xs.drop m).take n) := fun c hc => h c (List.mem_of_mem_drop (List.mem_of_mem_take hc))
/-- Behind a call: what is compared. -/
theorem sums_tail {a1 : Option (Nat × Nat)} {l1 : Nat} {c1 : Cap} {a2 : Option (Nat × Nat)} {l2 : Nat} {c2 : Cap} {x y z r : Nat} {q4 q5 : Int} {v v' : SlV} {bo : Nat} {i : Int} {hp : Option (Nat × Nat)} {sp : Option (Nat × Nat)}
    (hB : B.length ≤ 400) (heven : B.length % 2 = 0) (hw : wfB B) (hx : x < 2 ^ 64) (hy : y < 2 ^ 64) (hz : z < 2 ^ 64) (hr : r ≤ 65535)
    (hv : Own1 M v B) (hg : M.get bo = some ⟨[.int .u64 (x : Int), .int .u64 (y : Int), .int .u64 (z : Int), .int .u64 q4, .int .u64 q5], .fixed⟩)
    {may : Bool} (hmay : may = mayN B.length x y) (hv' : Own1 M v' (if may then fixed B x y z r else B))
    (hsum : may = true → ∀ (h1 : x + 2 ≤ B.length) (h2 : y + 2 ≤ B.length), ((r : Int) + (z % 65536 : Nat)) % 65535 = (B[x]'(by omega) * 256 + B[x + 1]'(by omega) + (B[y]'(by omega) * 256 + B[y + 1]'(by omega))) % 65535) :
    p4_4 C prog.meth a1 l1 c1 a2 l2 c2 sp hp i v.1 v.2.1 v.2.2 bo v'.1 v'.2.1 v'.2.2 may M = p4_2 C prog.meth a1 l1 c1 a2 l2 c2 sp hp (IntKind.wrap .i64 (i + 1)) M := by
  have hlen : v.2.1 = B.length := hv.1.symm
  have hlen' : v'.2.1 = B.length := by
    rw [← hv'.1]
    cases may
    · rfl
    · exact fixed_length _ _ _ _ _
  have iv := hv.bytes
  have iv' := hv'.bytes
  unfold Mem.bytesAt at iv iv'
  obtain ⟨-, g1⟩ := ints_iff.1 iv
  obtain ⟨-, g2⟩ := ints_iff.1 iv'
  have L0 : M.ldI .u64 bo (0 + 0 * 1) = some (x : Int) := by rw [ldI_at hg]; rfl
  have L1 : M.ldI .u64 bo (0 + 1 * 1) = some (y : Int) := by rw [ldI_at hg]; rfl
  have L2 : M.ldI .u64 bo (0 + 2 * 1) = some (z : Int) := by rw [ldI_at hg]; rfl
  have L0' : M.ldI .u64 bo 0 = some (x : Int) := by rw [ldI_at hg]; rfl
  -- the sums
  have s7 : p4_7 C prog.meth a1 l1 c1 a2 l2 c2 sp hp i v.1 v.2.1 v.2.2 bo v'.1 v'.2.1 v'.2.2 may M = p4_2 C prog.meth a1 l1 c1 a2 l2 c2 sp hp (IntKind.wrap .i64 (i + 1)) M := by
    have hE := p4_7_eq C prog.meth a1 l1 c1 a2 l2 c2 sp hp i v.1 v.2.1 v.2.2 bo v'.1 v'.2.1 v'.2.2 may M
    cases hm : may with
    | false => rw [hm] at hE; exact hE
    | true =>
      subst hm
      rw [if_pos rfl] at iv'
      simp only [cond_true, L0, Option.bind_some] at hE
      by_cases he : x % 2 = 0
      · have e : (Int.tmod (x : Int) 2 == 0) = true := by
          rw [Int.tmod_eq_emod_of_nonneg (by omega)]
          have : ((x : Nat) : Int) % 2 = 0 := by omega
          rw [this]; rfl
        obtain ⟨r1, r2, k1, k2, k3⟩ := sum2_C (v := v') (w := v) iv' iv (fixed_wf hw hr) hw (by omega) (by omega) (sum_even hmay.symm he (hsum rfl))
        simp only [e, cond_true, k1, k2, k3, Option.bind_some, int?_int, AVal.bool?, Bool.not_true, cond_false] at hE
        exact hE
      · have e : (Int.tmod (x : Int) 2 == 0) = false := by
          rw [Int.tmod_eq_emod_of_nonneg (by omega)]
          have : ((x : Nat) : Int) % 2 = 1 := by omega
          rw [this]; rfl
        rw [e, cond_false] at hE
        exact hE
  have s6 : p4_6 C prog.meth a1 l1 c1 a2 l2 c2 sp hp i v.1 v.2.1 v.2.2 bo v'.1 v'.2.1 v'.2.2 may M = p4_2 C prog.meth a1 l1 c1 a2 l2 c2 sp hp (IntKind.wrap .i64 (i + 1)) M := by
    have hE := p4_6_eq C prog.meth a1 l1 c1 a2 l2 c2 sp hp i v.1 v.2.1 v.2.2 bo v'.1 v'.2.1 v'.2.2 may M
    cases hm : may with
    | false => rw [hm] at hE s7; exact hE.trans s7
    | true =>
      subst hm
      rw [if_pos rfl] at iv' hv'
      simp only [cond_true, L0, Option.bind_some] at hE
      by_cases he : x % 2 = 1
      · have e : (Int.tmod (x : Int) 2 == 1) = true := by
          rw [Int.tmod_eq_emod_of_nonneg (by omega)]
          have : ((x : Nat) : Int) % 2 = 1 := by omega
          rw [this]; rfl
        obtain ⟨m1, m2, m3, m4⟩ := mayN_iff.1 hmay.symm
        obtain ⟨o', c', i'⟩ := own_mid hv' (by omega) (by omega)
        obtain ⟨o, cc, i0⟩ := own_mid hv (by omega) (by omega)
        have hl1 : v'.2.1 - 1 - 1 = B.length - 1 - 1 := by omega
        have hl2 : v.2.1 - 1 - 1 = B.length - 1 - 1 := by omega
        rw [hl1] at i'
        rw [hl2] at i0
        obtain ⟨r1, r2, k1, k2, k3⟩ := sum2_C (v := (some (o', 1), B.length - 1 - 1, .unk 1)) (w := (some (o, 1), B.length - 1 - 1, .unk 1)) i' i0 (wfB_drop (fixed_wf hw hr) _ _) (wfB_drop hw _ _) (by show B.length - 1 - 1 ≤ 4096; omega) (by show B.length - 1 - 1 ≤ 4096; omega) (sum_odd hmay.symm heven he (hsum rfl))
        simp only [e, cond_true, c', hl1, k1, Option.bind_some, int?_int, cc, hl2, k2, k3, AVal.bool?, same_refl, Option.getD_some, Bool.not_true, cond_false] at hE
        exact hE.trans s7
      · have e : (Int.tmod (x : Int) 2 == 1) = false := by
          rw [Int.tmod_eq_emod_of_nonneg (by omega)]
          have : ((x : Nat) : Int) % 2 = 0 := by omega
          rw [this]; rfl
        rw [e, cond_false] at hE
        exact hE.trans s7
  -- the bytes
  have loop : ∀ (d k : Nat), k + d = B.length → p4_5 C prog.meth a1 l1 c1 a2 l2 c2 sp hp i v.1 v.2.1 v.2.2 bo v'.1 v'.2.1 v'.2.2 may (k : Int) M = p4_2 C prog.meth a1 l1 c1 a2 l2 c2 sp hp (IntKind.wrap .i64 (i + 1)) M := by
    intro d
    induction d with
    | zero =>
      intro k hk
      have hE := p4_5_eq C prog.meth a1 l1 c1 a2 l2 c2 sp hp i v.1 v.2.1 v.2.2 bo v'.1 v'.2.1 v'.2.2 may (k : Int) M
      have q1 : ¬ ((k : Int) < (v'.2.1 : Int)) := by omega
      simp only [q1, decide_false, cond_false] at hE
      cases hm : may with
      | false => rw [hm] at hE s6; exact hE.trans s6
      | true =>
        subst hm
        rw [if_pos rfl] at g2
        obtain ⟨m1, m2, m3, m4⟩ := mayN_iff.1 hmay.symm
        obtain ⟨y1, y2⟩ := fixed_y (r := r) (z := z) m3 m4 m2
        obtain ⟨p, p1, p2⟩ := g2 y (by omega)
        obtain ⟨p', p1', p3⟩ := g2 (y + 1) (by omega)
        rw [p1] at p1'; cases p1'
        rw [y1] at p2
        rw [y2] at p3
        have k1 : (0 : Int) ≤ (y : Int) := by omega
        have k2 : Nat.blt y v'.2.1 = true := Mem.blt_iff.2 (by omega)
        have wy : IntKind.wrap .u64 ((y : Int) + 1) = ((y + 1 : Nat) : Int) := by rw [wu64]; omega
        have k3 : (0 : Int) ≤ ((y + 1 : Nat) : Int) := by omega
        have k4 : Nat.blt (y + 1) v'.2.1 = true := Mem.blt_iff.2 (by omega)
        have e1 : (((z % 65536 : Nat) : Int) / 256 != IntKind.wrap .u8 (Int.fdiv (z : Int) (2 ^ Nat.min 8 (IntKind.bits .u64)))) = false := by
          have : (2 : Int) ^ Nat.min 8 (IntKind.bits .u64) = 256 := by decide
          rw [this, Int.fdiv_eq_ediv_of_nonneg _ (by omega), wu8]
          have : (((z % 65536 : Nat) : Int) / 256) = (z : Int) / 256 % 256 := by omega
          rw [this]; simp
        have e2 : (((z % 65536 : Nat) : Int) % 256 != IntKind.wrap .u8 (z : Int)) = false := by
          rw [wu8]
          have : (((z % 65536 : Nat) : Int) % 256) = (z : Int) % 256 := by omega
          rw [this]; simp
        simp only [cond_true, L1, L2, Option.bind_some, k1, k2, decide_true, Int.toNat_natCast, p1, Nat.mul_one, p2, e1, cond_false, wy, k3, k4, p3, e2] at hE
        exact hE.trans s6
    | succ d ih =>
      intro k hk
      have hE := p4_5_eq C prog.meth a1 l1 c1 a2 l2 c2 sp hp i v.1 v.2.1 v.2.2 bo v'.1 v'.2.1 v'.2.2 may (k : Int) M
      have q1 : ((k : Int) < (v'.2.1 : Int)) := by omega
      have k1 : (0 : Int) ≤ (k : Int) := by omega
      have k2 : Nat.blt k v'.2.1 = true := Mem.blt_iff.2 (by omega)
      have k3 : Nat.blt k v.2.1 = true := Mem.blt_iff.2 (by omega)
      obtain ⟨p, p1, p2⟩ := g2 k (by omega)
      obtain ⟨p', p1', p2'⟩ := g1 k (by omega)
      rw [List.getElem?_eq_getElem (show k < B.length by omega)] at p2'
      have w1 : IntKind.wrap .i64 ((k : Int) + 1) = ((k + 1 : Nat) : Int) := by rw [wrap_i64 (by omega) (by omega)]; rfl
      have wk : IntKind.wrap .u64 (k : Int) = (k : Int) := by rw [wu64]; omega
      have ih := ih (k + 1) (by omega)
      cases hm : may with
      | false =>
        rw [hm] at p2 hE ih
        simp only [Bool.false_eq_true, if_false] at p2
        rw [List.getElem?_eq_getElem (show k < B.length by omega)] at p2
        simp only [q1, k1, k2, k3, decide_true, cond_true, Int.toNat_natCast, p1, p1', Option.bind_some, Nat.mul_one, p2, p2', bne_self_eq_false, cond_false, w1] at hE
        exact hE.trans ih
      | true =>
        rw [hm] at p2 hE ih
        simp only [if_true] at p2
        by_cases hk4 : k ≠ x ∧ k ≠ x + 1 ∧ k ≠ y ∧ k ≠ y + 1
        · obtain ⟨n1, n2, n3, n4⟩ := hk4
          rw [fixed_other n1 n2 n3 n4, List.getElem?_eq_getElem (show k < B.length by omega)] at p2
          simp only [q1, k1, k2, k3, decide_true, cond_true, Int.toNat_natCast, p1, p1', Option.bind_some, Nat.mul_one, p2, p2', bne_self_eq_false, cond_false, w1] at hE
          exact hE.trans ih
        · obtain ⟨m1, m2, m3, m4⟩ := mayN_iff.1 (hm ▸ hmay).symm
          rw [List.getElem?_eq_getElem (show k < (fixed B x y z r).length by rw [fixed_length]; omega)] at p2
          have wx : IntKind.wrap .u64 ((x : Int) + 1) = ((x + 1 : Nat) : Int) := by rw [wu64]; omega
          have wy : IntKind.wrap .u64 ((y : Int) + 1) = ((y + 1 : Nat) : Int) := by rw [wu64]; omega
          simp only [q1, k1, k2, k3, decide_true, cond_true, Int.toNat_natCast, p1, p1', Option.bind_some, Nat.mul_one, p2, p2', Bool.not_true, cond_false, L0, L1, wk, wx, wy, w1] at hE
          rw [← ih, hE]
          have h4 : ((k : Int) != (x : Int)) = false ∨ ((k : Int) != ((x + 1 : Nat) : Int)) = false ∨ ((k : Int) != (y : Int)) = false ∨ ((k : Int) != ((y + 1 : Nat) : Int)) = false := by
            by_cases n1 : k = x
            · left; simp; omega
            · by_cases n2 : k = x + 1
              · right; left; simp; omega
              · by_cases n3 : k = y
                · right; right; left; simp; omega
                · right; right; right; simp; omega
          cases (((fixed B x y z r)[k]'(by rw [fixed_length]; omega)) != (B[k]'(by omega))) with
          | false => rfl
          | true =>
            rcases h4 with h4 | h4 | h4 | h4
            · rw [h4]; rfl
            · rw [h4]; cases ((k : Int) != (x : Int)) <;> rfl
            · rw [h4]; cases ((k : Int) != (x : Int)) <;> cases ((k : Int) != ((x + 1 : Nat) : Int)) <;> rfl
            · rw [h4]; cases ((k : Int) != (x : Int)) <;> cases ((k : Int) != ((x + 1 : Nat) : Int)) <;> cases ((k : Int) != (y : Int)) <;> rfl
  have h4 := p4_4_eq C prog.meth a1 l1 c1 a2 l2 c2 sp hp i v.1 v.2.1 v.2.2 bo v'.1 v'.2.1 v'.2.2 may M
  exact h4.trans (loop B.length 0 (by omega))
end

/-! Asks. -/
section
variable {M : Mem}
theorem ask_ld {bytes : Nat} {a : Option (Nat × Nat)} {l : Nat} {c : Cap} (h : Shows M (.sl bytes [.int .i32, .int .u64, .int .u64, .int .u64, .int .u64, .int .u64, .bool]) (.sl a l c)) {i : Nat} (hi : i < l) : ∃ (p : Nat × Nat) (x y z : Nat) (q4 q5 : Int), slPtr a c = some p ∧ x < 2 ^ 64 ∧ y < 2 ^ 64 ∧ z < 2 ^ 64 ∧ ∀ M', M.Upto M' →
    M'.ldI .u64 p.1 (p.2 + i * 7 + 1) = some (x : Int) ∧ M'.ldI .u64 p.1 (p.2 + i * 7 + 1 + 1) = some (y : Int) ∧ M'.ldI .u64 p.1 (p.2 + i * 7 + 1 + 1 + 1) = some (z : Int) ∧ M'.ldI .u64 p.1 (p.2 + i * 7 + 1 + 1 + 1 + 1) = some q4 ∧ M'.ldI .u64 p.1 (p.2 + i * 7 + 1 + 1 + 1 + 1 + 1) = some q5 := by
  obtain ⟨p, vs, p1, -, p3, p4⟩ := h.row hi
  simp only [ShowsR, Shows] at p3
  obtain ⟨v0, _, rfl, ⟨n0, rfl, h0⟩, v1, _, rfl, ⟨n1, rfl, h1⟩, v2, _, rfl, ⟨n2, rfl, h2⟩, v3, _, rfl, ⟨n3, rfl, h3⟩, v4, _, rfl, ⟨n4, rfl, h4⟩, v5, _, rfl, ⟨n5, rfl, h5⟩, v6, _, rfl, hb, rfl⟩ := p3
  have b1 := u64_bounds h1
  have b2 := u64_bounds h2
  have b3 := u64_bounds h3
  obtain ⟨x, rfl⟩ : ∃ x : Nat, n1 = (x : Int) := ⟨n1.toNat, by omega⟩
  obtain ⟨y, rfl⟩ : ∃ x : Nat, n2 = (x : Int) := ⟨n2.toNat, by omega⟩
  obtain ⟨z, rfl⟩ : ∃ x : Nat, n3 = (x : Int) := ⟨n3.toNat, by omega⟩
  refine ⟨p, x, y, z, n4, n5, p1, by omega, by omega, by omega, fun M' hu => ?_⟩
  have k : ∀ f v, f < 7 → ([AVal.int .i32 n0, .int .u64 (x : Int), .int .u64 (y : Int), .int .u64 (z : Int), .int .u64 n4, .int .u64 n5, v6])[f]? = some v → M'.ld p.1 (p.2 + i * 7 + f) = some v := fun f v hf hv => by
    rw [Nat.add_assoc]
    have := p4 M' hu f hf
    simp only [List.length_cons, List.length_nil] at this
    rw [this]; exact hv
  exact ⟨ldI_ld.2 (k 1 _ (by omega) rfl), ldI_ld.2 (k 2 _ (by omega) rfl), ldI_ld.2 (k 3 _ (by omega) rfl), ldI_ld.2 (k 4 _ (by omega) rfl), ldI_ld.2 (k 5 _ (by omega) rfl)⟩
/-- The packet, cut, and even. -/
theorem even_C {bytes : Nat} {a : Option (Nat × Nat)} {l : Nat} {c : Cap} {a2 : Option (Nat × Nat)} {l2 : Nat} {c2 : Cap} (h : Shows M (.sl bytes [.int .u8]) (.sl a l c)) : ∃ (a' : Option (Nat × Nat)) (l' : Nat) (c' : Cap) (X : List Int), p4_0 C prog.meth a l c a2 l2 c2 M = p4_1 C prog.meth a' l' c' a2 l2 c2 M ∧ M.ints .u8 a' l' c' = some X ∧ l' ≤ 400 ∧ l' % 2 = 0 ∧ wfB X := by
  have hE := p4_0_eq C prog.meth a l c a2 l2 c2 M
  have hcE := p13_0_eq C prog.meth a l c 400 M
  obtain ⟨Mw, cw⟩ := works24_C
  have hbytes := h.ints
  rw [Shows] at h
  obtain ⟨a0, l0, c0, xs, he, hx, hl, hwf⟩ := hbytes
  cases he
  have hwB : wfB xs := fun c hc => u8_bounds (hwf c hc)
  have hev : ∀ n : Nat, n % 2 = 0 → (Int.tmod (n : Int) 2 != 0) = false := fun n hn => by
    rw [Int.tmod_eq_emod_of_nonneg (by omega)]
    have : ((n : Nat) : Int) % 2 = 0 := by omega
    rw [this]; rfl
  have hod : ∀ n : Nat, n % 2 = 1 → (Int.tmod (n : Int) 2 != 0) = true := fun n hn => by
    rw [Int.tmod_eq_emod_of_nonneg (by omega)]
    have : ((n : Nat) : Int) % 2 = 1 := by omega
    rw [this]; rfl
  rcases h with h | ⟨o, h⟩ | ⟨o, len, cells, h, h2, h3, h4, h5⟩
  · cases h
    have q : ¬ (((0 : Nat) : Int) > 400) := by decide
    simp only [q, decide_false, cond_false] at hcE
    simp only [cw, c13 hcE, Option.bind_some, List.getElem?_cons_zero, List.getElem?_cons_succ, int?_int, AVal.bool?, AVal.ptr?, AVal.sl?, AVal.tup?, AVal.agg?, AVal.ifc?, AVal.fn?, AVal.str?, List.head?_cons, List.tail_cons, List.isEmpty_nil, cond_true, cond_false, Option.isNone_some, Option.isNone_none, Bool.not_true, Bool.not_false, decide_true, decide_false, beq_self_eq_true, bne_self_eq_false, Int.reduceBEq, Int.reduceBNe, Int.cast_ofNat_Int, hev 0 rfl] at hE
    exact ⟨none, 0, .known 0, xs, hE, hx, by omega, rfl, hwB⟩
  · cases h
    have q : ¬ (((0 : Nat) : Int) > 400) := by decide
    simp only [q, decide_false, cond_false] at hcE
    simp only [cw, c13 hcE, Option.bind_some, List.getElem?_cons_zero, List.getElem?_cons_succ, int?_int, AVal.bool?, AVal.ptr?, AVal.sl?, AVal.tup?, AVal.agg?, AVal.ifc?, AVal.fn?, AVal.str?, List.head?_cons, List.tail_cons, List.isEmpty_nil, cond_true, cond_false, Option.isNone_some, Option.isNone_none, Bool.not_true, Bool.not_false, decide_true, decide_false, beq_self_eq_true, bne_self_eq_false, Int.reduceBEq, Int.reduceBNe, Int.cast_ofNat_Int, hev 0 rfl] at hE
    exact ⟨_, 0, .odd, xs, hE, hx, by omega, rfl, hwB⟩
  · simp only [AVal.sl.injEq] at h
    obtain ⟨rfl, rfl, rfl⟩ := h
    have hxl := ints_length hx
    have hcl : cells.length = l := by simpa using h3
    have h2 : M.get o = some ⟨cells, .ro 1⟩ := h2
    -- cut to 400 at most
    have hcut : ∃ m, m ≤ 400 ∧ m ≤ l ∧ C 13 [.sl (some (o, 0)) l (.unk 0), .int .i64 400] M = some (.sl (some (o, 0)) m (.unk 0), M) := by
      by_cases q : (l : Int) > 400
      · simp only [q, decide_true, cond_true] at hcE
        have := slcK_own_to (K := fun a l c => some (AVal.sl a l c, M)) (len := l) (h := 400) (kh := .i64) h2 (.inr rfl) (by omega)
        rw [show (((400 : Nat)) : Int) = 400 from rfl] at this
        rw [this] at hcE
        exact ⟨400, by omega, by omega, c13 hcE⟩
      · simp only [q, decide_false, cond_false] at hcE
        exact ⟨l, by omega, Nat.le_refl _, c13 hcE⟩
    obtain ⟨m, m1, m2, hcc⟩ := hcut
    have hxs : cells = xs.map (.int .u8) := by
      apply List.ext_getElem?
      intro j
      obtain ⟨-, gx⟩ := ints_iff.1 hx
      by_cases hj : j < l
      · obtain ⟨p, p1, p2⟩ := gx j hj
        cases (show some (o, 0) = some p from p1)
        rw [List.getElem?_eq_getElem (by omega)] at p2
        have := ldI_ld.1 p2
        rw [Nat.zero_add, ld_ro h2] at this
        rw [this, List.getElem?_map, List.getElem?_eq_getElem (by omega)]; rfl
      · rw [List.getElem?_eq_none (by omega), List.getElem?_eq_none (by simp; omega)]
    rw [hxs] at h2
    by_cases he : m % 2 = 0
    · simp only [cw, hcc, Option.bind_some, List.getElem?_cons_zero, List.getElem?_cons_succ, int?_int, AVal.bool?, AVal.ptr?, AVal.sl?, AVal.tup?, AVal.agg?, AVal.ifc?, AVal.fn?, AVal.str?, List.head?_cons, List.tail_cons, List.isEmpty_nil, cond_true, cond_false, Option.isNone_some, Option.isNone_none, Bool.not_true, Bool.not_false, decide_true, decide_false, beq_self_eq_true, bne_self_eq_false, Int.reduceBEq, Int.reduceBNe, Int.cast_ofNat_Int, hev m he] at hE
      have := cut_ints (l := 0) (h := m) h2 (by simp) (by omega) (by omega)
      rw [List.drop_zero, Nat.sub_zero] at this
      exact ⟨some (o, 0), m, .unk 0, xs.take m, hE, this, m1, he, fun c hc => hwB c (List.mem_of_mem_take hc)⟩
    · have ho := hod m (by omega)
      have hs := slcK_own_from (K := fun a l c => p4_1 C prog.meth a l c a2 l2 c2 M) (len := m) (l := 1) (kl := .i64) h2 (.inr rfl) (by simp; omega) (by omega)
      rw [show (((1 : Nat)) : Int) = 1 from rfl] at hs
      simp only [cw, hcc, Option.bind_some, List.getElem?_cons_zero, List.getElem?_cons_succ, int?_int, AVal.bool?, AVal.ptr?, AVal.sl?, AVal.tup?, AVal.agg?, AVal.ifc?, AVal.fn?, AVal.str?, List.head?_cons, List.tail_cons, List.isEmpty_nil, cond_true, cond_false, Option.isNone_some, Option.isNone_none, Bool.not_true, Bool.not_false, decide_true, decide_false, beq_self_eq_true, bne_self_eq_false, Int.reduceBEq, Int.reduceBNe, Int.cast_ofNat_Int, ho] at hE
      rw [hs] at hE
      by_cases hm1 : m = 1
      · subst hm1
        exact ⟨some (o, 0), 0, .fin 1 (1 * 1), [], hE, rfl, by omega, rfl, fun c hc => by cases hc⟩
      · rw [Go.Abs.beq_false (by omega)] at hE
        have := cut_ints (l := 1) (h := m) h2 (by simp) (by omega) (by omega)
        exact ⟨some (o, 1), m - 1, .unk 1, (xs.drop 1).take (m - 1), hE, this, by omega, by omega, wfB_drop hwB _ _⟩
theorem HelperSums_C {a : Option (Nat × Nat)} {l : Nat} {c : Cap} {a2 : Option (Nat × Nat)} {l2 : Nat} {c2 : Cap} {bytes bytes2 : Nat} (h : Shows M (.sl bytes [.int .u8]) (.sl a l c)) (h2 : Shows M (.sl bytes2 [.int .i32, .int .u64, .int .u64, .int .u64, .int .u64, .int .u64, .bool]) (.sl a2 l2 c2)) : ∃ M', C 4 [.sl a l c, .sl a2 l2 c2] M = some (.bool true, M') := by
  obtain ⟨a', l', c', X, hE, hx, hl, hev, hw⟩ := even_C (a2 := a2) (l2 := l2) (c2 := c2) h
  have hxl := ints_length hx
  have h1 := p4_1_eq C prog.meth a' l' c' a2 l2 c2 M
  have G0 : GS false KI M M (fun _ => .other 0) [] [] [] [] := ⟨Mem.Upto.refl _, rfl, by simp, by simp, rfl, by simp, by simp⟩
  obtain ⟨M2, s, x, role2, n1, u2, H2, F2⟩ := I_new G0 (by simp) hx (by omega)
  have H2 : GS false KI M M2 role2 [s] [some 0] [x] [⟨X, 64, 64, 0⟩] := H2
  obtain ⟨M3, role3, hd, n2, H3, u3⟩ := New0_C H2
  simp only [n1, n2, Option.bind_some, List.getElem?_cons_zero, List.getElem?_cons_succ, int?_int, AVal.bool?, AVal.ptr?, AVal.sl?, AVal.tup?, AVal.agg?, AVal.ifc?, AVal.fn?, AVal.str?, List.head?_cons, List.tail_cons, List.isEmpty_nil, cond_true, cond_false, Option.isNone_some, Option.isNone_none, Bool.not_true, Bool.not_false, decide_true, decide_false, beq_self_eq_true, bne_self_eq_false, Int.reduceBEq, Int.reduceBNe, Int.cast_ofNat_Int, bne_self_eq_false] at h1
  have loop : ∀ (d i : Nat) (M4 : Mem) (role : Nat → Rj) (gs : List Gp) (B : List Int) (A T mv : Nat), i + d = 40 → Hnd M M4 role gs B A T mv s hd [.sl none 0 (.known 0), .sl none 0 (.known 0), .sl none 0 (.known 0), .int .i64 (-1)] → B.length = l' → wfB B → ∃ M', p4_2 C prog.meth a' l' c' a2 l2 c2 (some (s, 0)) (some (hd, 0)) (i : Int) M4 = some (.bool true, M') := by
    intro d
    induction d with
    | zero =>
      intro i M4 role gs B A T mv hi H hB hwB
      have h2' := p4_2_eq C prog.meth a' l' c' a2 l2 c2 (some (s, 0)) (some (hd, 0)) (i : Int) M4
      have q2 : ¬ ((i : Int) < 40) := by omega
      refine ⟨M4, h2'.trans ?_⟩
      rw [decide_eq_false q2]
      cases decide ((i : Int) < (l2 : Int)) <;> rfl
    | succ d ih =>
      intro i M4 role gs B A T mv hi H hB hwB
      have h2' := p4_2_eq C prog.meth a' l' c' a2 l2 c2 (some (s, 0)) (some (hd, 0)) (i : Int) M4
      have q2 : ((i : Int) < 40) := by omega
      by_cases q1 : (i : Int) < (l2 : Int)
      rotate_left
      · simp only [q1, decide_false, cond_false] at h2'
        exact ⟨M4, h2'⟩
      simp only [q1, q2, decide_true, cond_true] at h2'
      have h3' := p4_3_eq C prog.meth a' l' c' a2 l2 c2 (some (s, 0)) (some (hd, 0)) (i : Int) M4
      obtain ⟨M5, v, b1, b2, b3, b4⟩ := I_bytes H.I (i := 0) rfl rfl
      simp only [bytesO, List.getElem?_cons_zero] at b3
      have H5 := H.upto b2
      obtain ⟨p, x, y, z, q4, q5, p1, hx64, hy64, hz64, p2⟩ := ask_ld h2 (i := i) (by omega)
      obtain ⟨A1, A2, A3, A4, A5⟩ := p2 M5 H5.I.up
      obtain ⟨M6, e6, u6, n6, g6⟩ := qbox M5 (x : Int) (y : Int) (z : Int) q4 q5
      have H6 := H5.upto u6
      have k1 : (0 : Int) ≤ (i : Int) := by omega
      have k2 : Nat.blt i l2 = true := Mem.blt_iff.2 (by omega)
      have r0 : M6.ldI .u64 M5.n 0 = some (x : Int) := by rw [ldI_at g6]; rfl
      have r1 : M6.ldI .u64 M5.n 1 = some (y : Int) := by rw [ldI_at g6]; rfl
      have r2 : M6.ldI .u64 M5.n 2 = some (z : Int) := by rw [ldI_at g6]; rfl
      have r3 : M6.ldI .u64 M5.n 3 = some q4 := by rw [ldI_at g6]; rfl
      have r4 : M6.ldI .u64 M5.n 4 = some q5 := by rw [ldI_at g6]; rfl
      have w1 : IntKind.wrap .i64 ((i : Int) + 1) = ((i + 1 : Nat) : Int) := by rw [wrap_i64 (by omega) (by omega)]; rfl
      rw [b1, Option.bind_some] at h3'
      simp only [AVal.sl?, Option.bind_some, k1, k2, decide_true, cond_true, Int.toNat_natCast, p1, A1, A2, A3, A4, A5, e6, r0, r1, r2, r3, r4] at h3'
      have hother : ∀ o, M4.n ≤ o → o < M6.n → ((fun y => if y < M5.n then (fun y => if y < M4.n then role y else Rj.other 0) y else Rj.other 0) o).side ≠ some false := fun o ho ho2 => by
        show (if o < M5.n then (if o < M4.n then role o else Rj.other 0) else Rj.other 0).side ≠ some false
        rw [if_neg (show ¬ o < M4.n by omega)]
        split <;> simp [Rj.side]
      -- the rest, whatever the call has done
      have rest : ∀ (M7 : Mem) (role7 : Nat → Rj) (gs7 : List Gp) (n : Int) (may : Bool) (r : Nat), C 17 [.ptr (some (hd, 0)), .int .i32 5, .agg [.int .u64 (x : Int), .int .u64 (y : Int), .int .u64 (z : Int), .int .u64 q4, .int .u64 q5]] M6 = some (.tup [.int .u64 n, .int .i64 0], M7) →
          may = mayN B.length x y → (n == 1) = may → r ≤ 65535 → Hnd M M7 role7 gs7 (if may then fixed B x y z r else B) A T mv s hd [.sl none 0 (.known 0), .sl none 0 (.known 0), .sl none 0 (.known 0), .int .i64 (-1)] → (∀ o, M4.n ≤ o → o < M6.n → M7.get o = M6.get o) →
          (may = true → ∀ (h1 : x + 2 ≤ B.length) (h2 : y + 2 ≤ B.length), ((r : Int) + (z % 65536 : Nat)) % 65535 = (B[x]'(by omega) * 256 + B[x + 1]'(by omega) + (B[y]'(by omega) * 256 + B[y + 1]'(by omega))) % 65535) →
          ∃ M', p4_2 C prog.meth a' l' c' a2 l2 c2 (some (s, 0)) (some (hd, 0)) (i : Int) M4 = some (.bool true, M') := by
        intro M7 role7 gs7 n may r hcall hmay hn hr H7 hkeep hsum
        obtain ⟨M8, v', d1, d2, d3, d4⟩ := I_bytes H7.I (i := 0) rfl rfl
        simp only [bytesO, List.getElem?_cons_zero] at d3
        have H8 := H7.upto d2
        have hB' : (if may then fixed B x y z r else B).length = l' := by
          cases may
          · exact hB
          · show (fixed B x y z r).length = l'
            rw [fixed_length]; exact hB
        have hlv : v.2.1 = l' := by rw [← hB]; exact b3.1.symm
        have hlv' : v'.2.1 = l' := by rw [← hB']; exact d3.1.symm
        have g7 : M8.get M5.n = some ⟨[.int .u64 (x : Int), .int .u64 (y : Int), .int .u64 (z : Int), .int .u64 q4, .int .u64 q5], .fixed⟩ := d2.get ((hkeep M5.n b2.1 (by omega)).trans g6)
        have L0 : M8.ldI .u64 M5.n (0 + 0 * 1) = some (x : Int) := by rw [ldI_at g7]; rfl
        have L1 : M8.ldI .u64 M5.n (0 + 1 * 1) = some (y : Int) := by rw [ldI_at g7]; rfl
        have hv8 : Own1 M8 v B := by
          have h6 := b3.upto u6
          refine h6.same (fun o ho => ?_)
          have o1 := b4 o ho
          have o2 := h6.lt o ho
          rw [d2.2 o (by have := (hkeep o o1 o2); exact Mem.get_lt (x := (M6.get o).get (by
            obtain ⟨_, q⟩ := b3
            by_cases hz : 0 < v.2.1
            · obtain ⟨o', e1, -, e3⟩ := q hz
              rw [fpS_own e1 hz] at ho
              obtain rfl : o = o' := by simpa using ho
              rw [u6.get e3]; rfl
            · rw [fpS_zero (by omega)] at ho; cases ho)) (by rw [this]; simp)), hkeep o o1 o2]
        have tail := sums_tail (a1 := a') (l1 := l') (c1 := c') (a2 := a2) (l2 := l2) (c2 := c2) (i := (i : Int)) (hp := some (hd, 0)) (sp := some (s, 0)) (M := M8) (by omega) (by omega) hwB hx64 hy64 hz64 hr hv8 g7 hmay d3 hsum
        rw [w1] at tail
        obtain ⟨M', t⟩ := ih (i + 1) M8 _ gs7 _ A T mv (by omega) H8 hB' (by
          cases may
          · exact hwB
          · exact fixed_wf hwB hr)
        have fin := tail.trans t
        refine ⟨M', h2'.trans (h3'.trans ?_)⟩
        rw [← fin, hcall]
        simp only [Option.bind_some, AVal.tup?, List.head?_cons, int?_int, List.tail_cons, List.isEmpty_nil, cond_true, d1, AVal.sl?, L0, L1, bne_self_eq_false, cond_false, hlv, hlv', hn]
        have wl : IntKind.wrap .u64 ((l' : Nat) : Int) = (l' : Int) := by rw [wu64]; omega
        have cx : (decide (IntKind.wrap .u64 ((x : Int) + 2) ≥ 2) && decide (IntKind.wrap .u64 ((x : Int) + 2) ≤ IntKind.wrap .u64 ((l' : Nat) : Int))) = decide (x + 2 ≤ B.length) := by
          rw [wl, wu64, hB]
          by_cases hh : x + 2 ≤ l'
          · rw [decide_eq_true hh, decide_eq_true (by omega), decide_eq_true (by omega)]; rfl
          · rw [decide_eq_false hh]
            by_cases h3 : x + 2 < 2 ^ 64
            · rw [decide_eq_false (p := ((x : Int) + 2) % 18446744073709551616 ≤ (l' : Int)) (by omega)]; simp
            · rw [decide_eq_false (p := ((x : Int) + 2) % 18446744073709551616 ≥ 2) (by omega)]; rfl
        have cy : (decide (IntKind.wrap .u64 ((y : Int) + 2) ≥ 2) && decide (IntKind.wrap .u64 ((y : Int) + 2) ≤ IntKind.wrap .u64 ((l' : Nat) : Int))) = decide (y + 2 ≤ B.length) := by
          rw [wl, wu64, hB]
          by_cases hh : y + 2 ≤ l'
          · rw [decide_eq_true hh, decide_eq_true (by omega), decide_eq_true (by omega)]; rfl
          · rw [decide_eq_false hh]
            by_cases h3 : y + 2 < 2 ^ 64
            · rw [decide_eq_false (p := ((y : Int) + 2) % 18446744073709551616 ≤ (l' : Int)) (by omega)]; simp
            · rw [decide_eq_false (p := ((y : Int) + 2) % 18446744073709551616 ≥ 2) (by omega)]; rfl
        have cn : ((x : Int) != (y : Int)) = decide (x ≠ y) := by
          by_cases hh : x = y
          · subst hh; simp
          · rw [decide_eq_true hh]; simp; omega
        have cp : (Int.tmod (x : Int) 2 == Int.tmod (y : Int) 2) = decide (x % 2 = y % 2) := by
          rw [Int.tmod_eq_emod_of_nonneg (by omega), Int.tmod_eq_emod_of_nonneg (by omega)]
          by_cases hh : x % 2 = y % 2
          · rw [decide_eq_true hh]; simp; omega
          · rw [decide_eq_false hh]; simp; omega
        have hmm : may = (decide (x + 2 ≤ B.length) && decide (y + 2 ≤ B.length) && decide (x ≠ y) && decide (x % 2 = y % 2)) := hmay
        rw [← cx, ← cy, ← cn, ← cp] at hmm
        generalize decide (IntKind.wrap .u64 ((x : Int) + 2) ≥ 2) = D1 at hmm ⊢
        generalize decide (IntKind.wrap .u64 ((x : Int) + 2) ≤ IntKind.wrap .u64 ((l' : Nat) : Int)) = D2 at hmm ⊢
        generalize decide (IntKind.wrap .u64 ((y : Int) + 2) ≥ 2) = D3 at hmm ⊢
        generalize decide (IntKind.wrap .u64 ((y : Int) + 2) ≤ IntKind.wrap .u64 ((l' : Nat) : Int)) = D4 at hmm ⊢
        generalize ((x : Int) != (y : Int)) = D5 at hmm ⊢
        generalize (Int.tmod (x : Int) 2 == Int.tmod (y : Int) 2) = D6 at hmm ⊢
        subst hmm
        cases D1 <;> cases D2 <;> cases D3 <;> cases D4 <;> cases D5 <;> cases D6 <;> rfl
      rcases CallFix_C H6 hwB (by omega) hx64 hy64 hz64 (q4 := q4) (q5 := q5) with ⟨m, M7, role7, f, H7, F7⟩ | ⟨m, M7, role7, gs7, r, f, f1, f2, H7, F7⟩
      · exact rest M7 role7 gs 0 false 0 f m.symm rfl (by omega) H7 (fun o o1 o2 => F7.get o o2 (hother o o1 o2)) (fun h => by cases h)
      · exact rest M7 role7 gs7 1 true r f m.symm rfl f1 H7 (fun o o1 o2 => F7.get o o2 (hother o o1 o2)) (fun _ => f2)
  obtain ⟨M', t⟩ := loop 40 0 M3 role3 [x] X 64 64 0 (by omega) H3 (by omega) hw
  exact ⟨M', c4 (hE.trans (h1.trans t))⟩
end
/-- HelperSums. -/
theorem HelperSums_law : ∀ avs M, M.Whole → okL M.n avs → ShowsArgs M [(false, [.sl 1 [.int .u8]]), (false, [.sl 56 [.int .i32, .int .u64, .int .u64, .int .u64, .int .u64, .int .u64, .bool]])] avs → ∃ M', C 4 avs M = some (.bool true, M') := by
  intro avs M hM hok h
  simp only [ShowsArgs, ShowsArg] at h
  obtain ⟨v, _, rfl, ⟨t, ht, hv⟩, w, _, rfl, ⟨t2, ht2, hw⟩, rfl⟩ := h
  obtain rfl : t = .sl 1 [.int .u8] := by simpa using ht.symm
  obtain rfl : t2 = .sl 56 [.int .i32, .int .u64, .int .u64, .int .u64, .int .u64, .int .u64, .bool] := by simpa using ht2.symm
  obtain ⟨a, l, c, rfl, -⟩ := hv.form
  obtain ⟨a2, l2, c2, rfl, -⟩ := hw.form
  exact HelperSums_C hv hw
end Go.Proofs.Ytidofnpfeibbfaa.M
