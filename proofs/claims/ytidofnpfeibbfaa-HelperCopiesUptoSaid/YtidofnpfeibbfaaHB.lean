import Derived.Test.YtidofnpfeibbfaaHT
import Derived.Test.YtidofnpfeibbfaaAV
import Derived.Test.YtidofnpfeibbfaaXLib7
import Derived.Test.YtidofnpfeibbfaaSM
import Derived.Test.YtidofnpfeibbfaaT
import Derived.Test.YtidofnpfeibbfaaXLib4
import Derived.Test.YtidofnpfeibbfaaXLaw
import Derived.Test.YtidofnpfeibbfaaXFc
set_option linter.unusedVariables false
set_option linter.unusedSimpArgs false
set_option linter.unnecessarySimpa false
set_option maxRecDepth 100000
namespace Go.Proofs.Ytidofnpfeibbfaa.M
open Go.Abs Go.RowKit
def Sta (k : Nat) (M : Mem) (role : Nat → Rj) (P : Mem → Prop) : Prop := ∀ M', M.n ≤ M'.n → (∀ o, o < M.n → role o = .other k → M'.get o = M.get o) → P M'
section
variable {M0 M M' : Mem} {role role' role'' : Nat → Rj} {k : Nat} {P Q : Mem → Prop}
theorem Sta.now (h : Sta k M role P) : P M := h M (Nat.le_refl _) (fun _ _ _ => rfl)
theorem Sta.next (h : Sta k M role P) (hn : M.n ≤ M'.n) (hg : ∀ o, o < M.n → role o = .other k → M'.get o = M.get o) (hr : ∀ o, o < M.n → role' o = role o) : Sta k M' role' P :=
  fun M2 h1 h2 => h M2 (by omega) (fun o ho hro => by rw [h2 o (by omega) (by rw [hr o ho]; exact hro), hg o ho hro])
theorem Sta.mono (h : Sta k M role P) (hi : ∀ M', P M' → Q M') : Sta k M role Q := fun M2 h1 h2 => hi _ (h M2 h1 h2)
theorem Sta.and (h : Sta k M role P) (h' : Sta k M role Q) : Sta k M role (fun M => P M ∧ Q M) := fun M2 h1 h2 => ⟨h M2 h1 h2, h' M2 h1 h2⟩
theorem Sta.const {p : Prop} (h : p) : Sta k M role (fun _ => p) := fun _ _ _ => h
structure Fo (role role' : Nat → Rj) (M M' : Mem) : Prop where
  n : M.n ≤ M'.n
  get : ∀ y, y < M.n → (∃ k, role y = .other k ∧ k ≠ 1 ∧ k ≠ 2) → M'.get y = M.get y
  rl : ∀ y, y < M.n → role' y = role y
theorem Fj.fo (h : Fj false role role' M M') : Fo role role' M M' := ⟨h.n, fun y hy ⟨k, hk, _⟩ => h.get y hy (by rw [hk]; exact nofun), h.rl⟩
theorem Fo.refl (role : Nat → Rj) (M : Mem) : Fo role role M M := ⟨Nat.le_refl _, fun _ _ _ => rfl, fun _ _ => rfl⟩
theorem Fo.trans (h : Fo role role' M M') {M'' : Mem} (h' : Fo role' role'' M' M'') : Fo role role'' M M'' :=
  ⟨Nat.le_trans h.n h'.n, fun y hy hk => by rw [h'.get y (Nat.lt_of_lt_of_le hy h.n) (by rw [h.rl y hy]; exact hk), h.get y hy hk], fun y hy => by rw [h'.rl y (Nat.lt_of_lt_of_le hy h.n), h.rl y hy]⟩
theorem Sta.fo (h : Sta k M role P) (F : Fo role role' M M') (h1 : k ≠ 1) (h2 : k ≠ 2) : Sta k M' role' P := h.next F.n (fun o ho hr => F.get o ho ⟨k, hr, h1, h2⟩) F.rl
theorem Sta.fj (h : Sta k M role P) (F : Fj false role role' M M') : Sta k M' role' P := h.next F.n (fun o ho hr => F.get o ho (by rw [hr]; exact nofun)) F.rl
def extK (k : Nat) (role : Nat → Rj) (n : Nat) : Nat → Rj := fun y => if y < n then role y else .other k
theorem extK_lt {n y : Nat} (h : y < n) : extK k role n y = role y := if_pos h
theorem extK_ge {n y : Nat} (h : n ≤ y) : extK k role n y = .other k := if_neg (by omega)
theorem Fj.extK (k : Nat) (role : Nat → Rj) (hu : M.Upto M') : Fj false role (extK k role M.n) M M' := ⟨hu.1, fun y hy _ => hu.2 y hy, fun y hy => extK_lt hy⟩
theorem GS.extK {b : Bool} {K : Kd} {hs : List Nat} {cur : List (Option Nat)} {gs : List Gp} {ds : List Dt} (H : GS b K M0 M role hs cur gs ds) (k : Nat) (hu : M.Upto M') : GS b K M0 M' (extK k role M.n) hs cur gs ds := H.frame (H.up.trans hu) (fun y hy _ => hu.2 y hy) (fun y hy => extK_lt hy)
theorem GS.oth {hs : List Nat} {cur : List (Option Nat)} {gs : List Gp} {ds : List Dt} (H : GS false KI M0 M role hs cur gs ds) {S : Nat → Prop} (hb : Mem.But S M M') (hS : ∀ y, S y → y < M.n → M0.n ≤ y ∧ (role y).side ≠ some false) (hr : ∀ y, y < M.n → role' y = role y) : GS false KI M0 M' role' hs cur gs ds :=
  H.frame ⟨by have := H.up.1; have := hb.1; omega, fun o ho => by
    have := H.up.1
    by_cases hs : S o
    · have := (hS o hs (by omega)).1; omega
    · rw [hb.2 o (by omega) hs, H.up.2 o ho]⟩ (fun y hy hs => hb.2 y hy (fun h => (hS y h hy).2 hs)) hr
end
structure Sw (i : Nat) (B : List Int) (N : Nat) (cur : List (Option Nat)) (ds : List Dt) (cur' : List (Option Nat)) (ds' : List Dt) : Prop where
  len : cur'.length = cur.length
  me : ∃ g d, cur'[i]? = some (some g) ∧ ds'[g]? = some d ∧ d.B = B ∧ d.mv ≤ N
  oth : ∀ j c, j ≠ i → cur[j]? = some c → ∃ c', cur'[j]? = some c' ∧ bytesO ds' c' = bytesO ds c
theorem Sw.trans {i : Nat} {B B' : List Int} {N N' : Nat} {cur cur' cur'' : List (Option Nat)} {ds ds' ds'' : List Dt} (h : Sw i B N cur ds cur' ds') (h' : Sw i B' N' cur' ds' cur'' ds'') : Sw i B' N' cur ds cur'' ds'' :=
  ⟨h'.len.trans h.len, h'.me, fun j c hj hc => by
    obtain ⟨c1, e1, e2⟩ := h.oth j c hj hc
    obtain ⟨c2, e3, e4⟩ := h'.oth j c1 hj e1
    exact ⟨c2, e3, e4.trans e2⟩⟩
theorem Sw.refl {i g N : Nat} {cur : List (Option Nat)} {ds : List Dt} {d : Dt} (hc : cur[i]? = some (some g)) (hd : ds[g]? = some d) (hN : d.mv ≤ N) : Sw i d.B N cur ds cur ds := ⟨rfl, ⟨g, d, hc, hd, rfl, hN⟩, fun j c _ h => ⟨c, h, rfl⟩⟩
theorem two_count {cur : List (Option Nat)} {i j g : Nat} (hne : i ≠ j) (hi : cur[i]? = some (some g)) (hj : cur[j]? = some (some g)) : 1 < cur.count (some g) := by
  have h := cnt_set (y := none) hi g
  have h2 : (cur.set i none)[j]? = some (some g) := by rw [List.getElem?_set, if_neg hne]; exact hj
  have h3 := cnt_pos h2
  simp only [if_true, reduceCtorEq, if_false, Nat.add_zero] at h
  omega
theorem bytesO_app {ds : List Dt} {e : Dt} {c : Option Nat} (h : ∀ g, c = some g → g < ds.length) : bytesO (ds ++ [e]) c = bytesO ds c := by
  cases c with
  | none => rfl
  | some g => unfold bytesO; simp only; rw [List.getElem?_append_left (h g rfl)]
section
variable {b : Bool} {K : Kd} {M0 M : Mem} {role : Nat → Rj} {hs : List Nat} {cur : List (Option Nat)} {gs : List Gp} {ds : List Dt} {i g : Nat} {d : Dt}
theorem GS.sw (H : GS b K M0 M role hs cur gs ds) (hc : cur[i]? = some (some g)) (hd : ds[g]? = some d) (e : Dt) {N : Nat} (hN : e.mv ≤ N) : Sw i e.B N cur ds (oC cur ds.length i g) ((oD cur ds g d).set (oG cur ds.length g) e) := by
  have hil : i < cur.length := (List.getElem?_eq_some_iff.1 hc).1
  have hgl : g < ds.length := (List.getElem?_eq_some_iff.1 hd).1
  have hin : ∀ j c, cur[j]? = some c → ∀ g, c = some g → g < ds.length := fun j c h g' e => by
    rw [e] at h; rw [← H.lend]; exact H.inb j g' h
  unfold oC oD oG
  by_cases h1 : 1 < cur.count (some g)
  · rw [if_pos h1, if_pos h1, if_pos h1]
    refine ⟨by simp, ⟨ds.length, e, by rw [List.getElem?_set, if_pos rfl, if_pos hil], by simp, rfl, hN⟩, fun j c hj hcj => ⟨c, by rw [List.getElem?_set, if_neg (fun h => hj h.symm)]; exact hcj, ?_⟩⟩
    rw [List.set_append_right _ _ (Nat.le_refl _), Nat.sub_self, List.set_cons_zero]
    exact bytesO_app (hin j c hcj)
  · rw [if_neg h1, if_neg h1, if_neg h1]
    refine ⟨rfl, ⟨g, e, hc, by rw [List.getElem?_set, if_pos rfl, if_pos hgl], rfl, hN⟩, fun j c hj hcj => ⟨c, hcj, ?_⟩⟩
    cases c with
    | none => rfl
    | some g' =>
      have hne : g ≠ g' := fun e2 => by
        subst e2
        apply h1
        exact two_count (fun h => hj h.symm) hc hcj
      unfold bytesO
      simp only
      rw [List.getElem?_set, if_neg hne]
end
end Go.Proofs.Ytidofnpfeibbfaa.M
set_option linter.unusedVariables false
set_option linter.unusedSimpArgs false
set_option linter.unnecessarySimpa false
namespace Go.Proofs.Ytidofnpfeibbfaa.M
open Go.Abs
def wt (i : Nat) : Int := if i % 2 = 0 then 256 else 1
theorem fold_mod (n : Nat) : (n / 65536 + n % 65536) % 65535 = n % 65535 := by omega
end Go.Proofs.Ytidofnpfeibbfaa.M
set_option linter.unusedVariables false
set_option linter.unusedSimpArgs false
set_option linter.unnecessarySimpa false
set_option maxRecDepth 100000
namespace Go.Proofs.Ytidofnpfeibbfaa.M
open Go.Abs
section
variable {M : Mem}
theorem fold_C : ∀ (N n : Nat) (M : Mem), n ≤ N → n < 2 ^ 62 → ∃ r : Nat, p48_1 C prog.meth (n : Int) M = some (.int .u16 (r : Int), M) ∧ r ≤ 65535 ∧ r % 65535 = n % 65535 := by
  intro N
  induction N with
  | zero =>
    intro n M hN hn
    have hE := p48_1_eq C prog.meth (n : Int) M
    have q : ¬ ((n : Int) > 65535) := by omega
    have w : IntKind.wrap .u16 (n : Int) = (n : Int) := by rw [wu16]; omega
    simp only [q, decide_false, cond_false, w] at hE
    exact ⟨n, hE, by omega, rfl⟩
  | succ N ih =>
    intro n M hN hn
    have hE := p48_1_eq C prog.meth (n : Int) M
    by_cases q : (n : Int) > 65535
    · have e1 : Int.fdiv (n : Int) (2 ^ Nat.min 16 (IntKind.bits .u64)) = ((n / 65536 : Nat) : Int) := by
        have : (2 : Int) ^ Nat.min 16 (IntKind.bits .u64) = 65536 := by decide
        rw [this, Int.fdiv_eq_ediv_of_nonneg _ (by omega)]; omega
      have e2 : (BitVec.ofInt (IntKind.bits .u64) (n : Int) &&& BitVec.ofInt (IntKind.bits .u64) 65535).toNat = n % 65536 := by
        have := and_nat n 65535 (by omega) (by omega)
        rw [show (65535 : Int) = ((65535 : Nat) : Int) from rfl, this]
        exact Nat.and_two_pow_sub_one_eq_mod n 16
      have e3 : IntKind.wrap .u64 (((n / 65536 : Nat) : Int) + IntKind.wrap .u64 ((n % 65536 : Nat) : Int)) = ((n / 65536 + n % 65536 : Nat) : Int) := by
        rw [wu64, wu64]; omega
      simp only [q, decide_true, cond_true, e1, e2, e3] at hE
      obtain ⟨r, r1, r2, r3⟩ := ih (n / 65536 + n % 65536) M (by omega) (by omega)
      exact ⟨r, hE.trans r1, r2, by rw [r3, fold_mod]⟩
    · have w : IntKind.wrap .u16 (n : Int) = (n : Int) := by rw [wu16]; omega
      simp only [q, decide_false, cond_false, w] at hE
      exact ⟨n, hE, by omega, rfl⟩
theorem Fold_C {n : Nat} (hn : n < 2 ^ 62) : ∃ r : Nat, C 48 [.int .u64 (n : Int)] M = some (.int .u16 (r : Int), M) ∧ r ≤ 65535 ∧ r % 65535 = n % 65535 := by
  obtain ⟨r, r1, r2, r3⟩ := fold_C n n M (Nat.le_refl _) hn
  exact ⟨r, c48 ((p48_0_eq C prog.meth (n : Int) M).trans r1), r2, r3⟩
theorem Add_C {a b : Nat} (ha : a ≤ 65535) (hb : b ≤ 65535) : ∃ r : Nat, C 106 [.int .u16 (a : Int), .int .u16 (b : Int)] M = some (.int .u16 (r : Int), M) ∧ r ≤ 65535 ∧ r % 65535 = (a + b) % 65535 := by
  have hE := p106_0_eq C prog.meth (a : Int) (b : Int) M
  obtain ⟨r, r1, r2, r3⟩ := Fold_C (M := Mem.empty) (n := a + b) (by omega)
  have w : IntKind.wrap .u64 (IntKind.wrap .u64 (a : Int) + IntKind.wrap .u64 (b : Int)) = ((a + b : Nat) : Int) := by rw [wu64, wu64, wu64]; omega
  rw [w, r1, Option.bind_some] at hE
  simp only [int?_int, rvs, Int.reduceBEq, Int.reduceBNe, Int.cast_ofNat_Int] at hE
  exact ⟨r, c106 hE, r2, r3⟩
theorem compl16 {x : Nat} (h : x ≤ 65535) : IntKind.wrap .u16 (((BitVec.ofInt (IntKind.bits .u16) (IntKind.max .u16) ^^^ BitVec.ofInt (IntKind.bits .u16) (x : Int)).toNat : Nat) : Int) = ((65535 - x : Nat) : Int) := by
  have e1 : BitVec.ofInt 16 (IntKind.max .u16) = BitVec.allOnes 16 := by decide
  have e2 : (BitVec.ofInt (IntKind.bits .u16) (x : Int) : BitVec 16) = BitVec.ofNat 16 x := by
    show BitVec.ofInt 16 (x : Int) = _
    rw [BitVec.ofInt_natCast]
  have e3 : (BitVec.ofInt (IntKind.bits .u16) (IntKind.max .u16) ^^^ BitVec.ofInt (IntKind.bits .u16) (x : Int)).toNat = 65535 - x := by
    show (BitVec.ofInt 16 (IntKind.max .u16) ^^^ BitVec.ofInt 16 (x : Int)).toNat = _
    rw [e1, show (BitVec.ofInt 16 (x : Int)) = BitVec.ofNat 16 x from e2, BitVec.allOnes_xor, BitVec.toNat_not, BitVec.toNat_ofNat]
    omega
  rw [e3, wu16]; omega
theorem Update_C {f o n : Nat} (hf : f ≤ 65535) (ho : o ≤ 65535) (hn : n ≤ 65535) : ∃ r : Nat, C 95 [.int .u16 (f : Int), .int .u16 (o : Int), .int .u16 (n : Int)] M = some (.int .u16 (r : Int), M) ∧ r ≤ 65535 ∧ (r + n) % 65535 = (f + o) % 65535 := by
  have hE := p95_0_eq C prog.meth (f : Int) (o : Int) (n : Int) M
  obtain ⟨x, x1, x2, x3⟩ := Add_C (M := Mem.empty) (a := 65535 - f) (b := 65535 - o) (by omega) (by omega)
  obtain ⟨y, y1, y2, y3⟩ := Add_C (M := Mem.empty) x2 hn
  rw [compl16 hf, compl16 ho, x1, Option.bind_some] at hE
  simp only [int?_int, rvs, Int.reduceBEq, Int.reduceBNe, Int.cast_ofNat_Int] at hE
  rw [y1, Option.bind_some] at hE
  simp only [int?_int, rvs, Int.reduceBEq, Int.reduceBNe, Int.cast_ofNat_Int] at hE
  rw [compl16 y2] at hE
  exact ⟨65535 - y, c95 hE, by omega, by omega⟩
end
theorem load2 {B : List Int} (hw : wfB B) {k : Nat} (h : k + 2 ≤ B.length) : ((B.drop ((k : Int)).toNat).take (2 : Int).toNat).foldl ldF 0 = B[k]'(by omega) * 256 + B[k + 1]'(by omega) := by
  have e : (B.drop ((k : Int)).toNat).take (2 : Int).toNat = [B[k]'(by omega), B[k + 1]'(by omega)] := by
    rw [Int.toNat_natCast, List.drop_eq_getElem_cons (by omega), List.drop_eq_getElem_cons (by omega)]; rfl
  have h0 := hw _ (List.getElem_mem (show k < B.length by omega))
  have h1 := hw _ (List.getElem_mem (show k + 1 < B.length by omega))
  rw [e, List.foldl_cons, List.foldl_cons, List.foldl_nil, ldF_ldR (by omega) h0, ldF_ldR (ldR_pos _ _) h1]
  unfold ldR
  rw [wu64, wu64, wu64, wu64, wu64, wu64]
  omega
theorem store2 {B : List Int} {k : Nat} {V : Int} (h : k + 2 ≤ B.length) (h0 : 0 ≤ V ∧ V < 65536) : storeB B (k : Int) 2 V = (B.set k (V / 256)).set (k + 1) (V % 256) := by
  have := stR_storeB (B := B) (k := k) (n := 2) (V := V) h0.1 (by omega) (by omega) (by omega)
  rw [show ((2 : Nat) : Int) = 2 from rfl] at this
  rw [← this]
  rw [stR, stR, stR]
  show (B.set (k + 1) _).set k _ = _
  rw [List.set_comm _ _ (show k + 1 ≠ k by omega)]
  congr 1
  · congr 1
    rw [Int.tdiv_eq_ediv_of_nonneg (by omega), wu64, Int.tmod_eq_emod_of_nonneg (by omega), wu8]; omega
  · rw [Int.tmod_eq_emod_of_nonneg (by omega), wu8]; omega
section
variable {M0 M : Mem} {role : Nat → Rj} {gs : List Gp} {B : List Int} {A T mv s hd : Nat}
structure Hnd (M0 M : Mem) (role : Nat → Rj) (gs : List Gp) (B : List Int) (A T mv s hd : Nat) (cs : List AVal) : Prop where
  I : GS false KI M0 M role [s] [some 0] gs [⟨B, A, T, mv⟩]
  gh : M.get hd = some ⟨.ptr (some (s, 0)) :: cs, .fixed⟩
  rh : role hd = .other 0
  hM : M0.n ≤ hd
theorem GS.ext' {b : Bool} {K : Kd} {hs : List Nat} {cur : List (Option Nat)} {ds : List Dt} {M' : Mem} (H : GS b K M0 M role hs cur gs ds) (hu : M.Upto M') : GS b K M0 M' (fun y => if y < M.n then role y else .other 0) hs cur gs ds := H.frame (H.up.trans hu) (fun y hy _ => hu.2 y hy) (fun y hy => if_pos hy)
theorem Hnd.upto {cs : List AVal} {M' : Mem} (H : Hnd M0 M role gs B A T mv s hd cs) (hu : M.Upto M') : Hnd M0 M' (fun y => if y < M.n then role y else .other 0) gs B A T mv s hd cs :=
  ⟨H.I.ext' hu, hu.get H.gh, by rw [if_pos (Mem.get_lt H.gh)]; exact H.rh, H.hM⟩
end
end Go.Proofs.Ytidofnpfeibbfaa.M
set_option linter.unusedVariables false
set_option linter.unusedSimpArgs false
set_option linter.unnecessarySimpa false
set_option maxRecDepth 100000
namespace Go.Proofs.Ytidofnpfeibbfaa.M
open Go.Abs Go.RowKit
abbrev Pr := Int × Int
def encP (p : Pr) : List AVal := [.int .u64 p.1, .int .u64 p.2]
theorem encP2 : Enc 2 encP := fun _ => rfl
section
variable {M M' : Mem} {a a' : Option (Nat × Nat)} {l l' : Nat} {c c' : Cap} {xs ys : List Pr}
theorem pr_ld (h : Sl M 2 encP a l c xs) {i : Nat} (hi : i < l) : ∃ p, slPtr a c = some p ∧ M.ldI .u64 p.1 (p.2 + i * 2) = some (xs[i]'(by have := h.2; omega)).1 ∧ M.ldI .u64 p.1 (p.2 + i * 2 + 1) = some (xs[i]'(by have := h.2; omega)).2 := by
  obtain ⟨p, h1, h2⟩ := h.get encP2 (by omega) hi
  have h3 := h2 0 (by omega)
  have h4 := h2 1 (by omega)
  refine ⟨p, h1, ldI_ld.2 ?_, ldI_ld.2 ?_⟩
  · rw [Nat.add_zero] at h3; exact h3
  · rw [Nat.add_assoc]; exact h4
def Inc (xs : List Pr) : Prop := ∀ i (h : i + 1 < xs.length), (xs[i]'(by omega)).1 < (xs[i + 1]'h).1
theorem Inc.lt (h : Inc xs) : ∀ (d i : Nat) (hj : i + d + 1 < xs.length), (xs[i]'(by omega)).1 < (xs[i + d + 1]'hj).1
  | 0, i, hj => h i hj
  | d + 1, i, hj => Int.lt_trans (Inc.lt h d i (by omega)) (h (i + d + 1) hj)
theorem Inc.lt' (h : Inc xs) {i j : Nat} (hij : i < j) (hj : j < xs.length) : (xs[i]'(by omega)).1 < (xs[j]'hj).1 := by
  obtain ⟨d, rfl⟩ : ∃ d, j = i + d + 1 := ⟨j - i - 1, by omega⟩
  exact h.lt d i hj
open Classical in
noncomputable def chk (xs : List Pr) : Int := if xs.length > 64 then 3 else if Inc xs then 0 else 190
theorem chk_zero (h : chk xs = 0) : xs.length ≤ 64 ∧ Inc xs := by
  unfold chk at h
  split at h
  · cases h
  · split at h
    · exact ⟨by omega, by assumption⟩
    · cases h
theorem chk_of (h : xs.length ≤ 64) (h2 : Inc xs) : chk xs = 0 := by unfold chk; rw [if_neg (by omega), if_pos h2]
theorem TCheck_C (h : Sl M 2 encP a l c xs) : C 42 [.sl a l c] M = some (.int .i64 (chk xs), M) := by
  have hE := p42_0_eq C prog.meth a l c M
  have hl := h.2
  by_cases h0 : (l : Int) > 64
  · simp only [h0, decide_true, cond_true] at hE
    rw [show chk xs = 3 by unfold chk; rw [if_pos (by omega)]]
    exact c42 hE
  · simp only [h0, decide_false, cond_false] at hE
    have loop : ∀ (d i : Nat), i + d = l → (∀ j (hj2 : j + 1 < l), j + 1 < i → (xs[j]'(by omega)).1 < (xs[j + 1]'(by omega)).1) → p42_1 C prog.meth a l c (l : Int) (i : Int) M = some (.int .i64 (chk xs), M) := by
      intro d
      induction d with
      | zero =>
        intro i hi hs
        have hF := p42_1_eq C prog.meth a l c (l : Int) (i : Int) M
        have q : ¬ ((i : Int) < (l : Int)) := by omega
        simp only [q, decide_false, cond_false] at hF
        rw [chk_of (by omega) (fun j hj => hs j (by omega) (by omega))]
        exact hF
      | succ d ih =>
        intro i hi hs
        have hF := p42_1_eq C prog.meth a l c (l : Int) (i : Int) M
        have q : ((i : Int) < (l : Int)) := by omega
        have hw : IntKind.wrap .i64 ((i : Int) + 1) = ((i + 1 : Nat) : Int) := by rw [wrap_i64 (by omega) (by omega)]; rfl
        by_cases h1 : (i : Int) > 0
        · obtain ⟨m, rfl⟩ : ∃ m, i = m + 1 := ⟨i - 1, by omega⟩
          have hw2 : IntKind.wrap .i64 (((m + 1 : Nat) : Int) - 1) = (m : Int) := by rw [wrap_i64 (by omega) (by omega)]; omega
          have c0 : (0 : Int) ≤ ((m + 1 : Nat) : Int) := by omega
          have c1 : Nat.blt (m + 1) l = true := Mem.blt_iff.2 (by omega)
          have c2 : Nat.blt m l = true := Mem.blt_iff.2 (by omega)
          have c3 : (0 : Int) ≤ (m : Int) := by omega
          obtain ⟨p, hp, l1, _⟩ := pr_ld h (i := m + 1) (by omega)
          obtain ⟨p', hp', l2, _⟩ := pr_ld h (i := m) (by omega)
          rw [hp] at hp'; cases hp'
          by_cases h2 : (xs[m + 1]'(by omega)).1 ≤ (xs[m]'(by omega)).1
          · simp only [int?_int, rvs, Int.reduceBEq, Int.reduceBNe, Int.cast_ofNat_Int, q, h1, c0, c1, c2, c3, Int.toNat_natCast, hp, Nat.add_zero, l1, hw2, l2, h2] at hF
            have : chk xs = 190 := by
              unfold chk
              rw [if_neg (by omega), if_neg (fun hI => by have := hI m (by omega); omega)]
            rw [this]; exact hF
          · simp only [int?_int, rvs, Int.reduceBEq, Int.reduceBNe, Int.cast_ofNat_Int, q, h1, c0, c1, c2, c3, Int.toNat_natCast, hp, Nat.add_zero, l1, hw2, l2, h2, hw] at hF
            rw [hF]
            exact ih (m + 1 + 1) (by omega) (fun j hj2 hj => by
              by_cases e : j + 1 < m + 1
              · exact hs j hj2 e
              · obtain rfl : j = m := by omega
                omega)
        · simp only [int?_int, rvs, Int.reduceBEq, Int.reduceBNe, Int.cast_ofNat_Int, q, h1, hw] at hF
          rw [hF]
          exact ih (i + 1) (by omega) (fun j hj2 hj => by omega)
    exact c42 (hE.trans (loop l 0 (by omega) (fun j hj2 hj => by omega)))
end
section
variable {M M' : Mem} {a a' : Option (Nat × Nat)} {l l' : Nat} {c c' : Cap} {xs ys : List Pr}
def IsLk (xs : List Pr) (k v : Int) (b : Bool) : Prop := (b = true ∧ (k, v) ∈ xs) ∨ (b = false ∧ v = 0 ∧ ∀ p ∈ xs, p.1 ≠ k)
theorem Inc.uniq (h : Inc xs) {k v w : Int} (h1 : (k, v) ∈ xs) (h2 : (k, w) ∈ xs) : v = w := by
  obtain ⟨i, hi, e1⟩ := List.mem_iff_getElem.1 h1
  obtain ⟨j, hj, e2⟩ := List.mem_iff_getElem.1 h2
  rcases Nat.lt_trichotomy i j with hij | rfl | hij
  · have := h.lt' hij hj
    rw [e1, e2] at this; simp only at this; omega
  · rw [e1] at e2; cases e2; rfl
  · have := h.lt' hij hi
    rw [e1, e2] at this; simp only at this; omega
theorem IsLk.uniq (h : Inc xs) {k v w : Int} {b b' : Bool} (h1 : IsLk xs k v b) (h2 : IsLk xs k w b') : v = w ∧ b = b' := by
  rcases h1 with ⟨rfl, m1⟩ | ⟨rfl, rfl, n1⟩ <;> rcases h2 with ⟨rfl, m2⟩ | ⟨rfl, rfl, n2⟩
  · exact ⟨h.uniq m1 m2, rfl⟩
  · exact absurd rfl (n2 _ m1)
  · exact absurd rfl (n1 _ m2)
  · exact ⟨rfl, rfl⟩
theorem Find_C (h : Sl M 2 encP a l c xs) (k : Int) : ∃ v b, C 71 [.sl a l c, .int .u64 k] M = some (.tup [.int .u64 v, .bool b], M) ∧ (chk xs ≠ 0 → v = 0 ∧ b = false) ∧ (chk xs = 0 → IsLk xs k v b) := by
  have hE := p71_0_eq C prog.meth a l c k M
  have hl := h.2
  simp only [int?_int, rvs, Int.reduceBEq, Int.reduceBNe, Int.cast_ofNat_Int, TCheck_C h] at hE
  by_cases h0 : chk xs = 0
  · obtain ⟨h64, hI⟩ := chk_zero h0
    simp only [h0, bne_self_eq_false, cond_false] at hE
    have loop : ∀ (d f t : Nat), t - f ≤ d → f ≤ t → t ≤ l → (∀ j (hj2 : j < l), j < f → (xs[j]'(by omega)).1 < k) → (∀ j (hj : j < l), t ≤ j → k < (xs[j]'(by omega)).1) → ∃ v b, p71_1 C prog.meth a l c k (f : Int) (t : Int) M = some (.tup [.int .u64 v, .bool b], M) ∧ IsLk xs k v b := by
      intro d
      induction d with
      | zero =>
        intro f t hd hft htl hlo hhi
        have hF := p71_1_eq C prog.meth a l c k (f : Int) (t : Int) M
        have q : ¬ ((f : Int) < (t : Int)) := by omega
        simp only [q, decide_false, cond_false] at hF
        refine ⟨0, false, hF, .inr ⟨rfl, rfl, fun p hp => ?_⟩⟩
        obtain ⟨j, hj, rfl⟩ := List.mem_iff_getElem.1 hp
        by_cases e : j < f
        · have := hlo j (by omega) e; omega
        · have := hhi j (by omega) (by omega); omega
      | succ d ih =>
        intro f t hd hft htl hlo hhi
        have hF := p71_1_eq C prog.meth a l c k (f : Int) (t : Int) M
        by_cases q : ((f : Int) < (t : Int))
        rotate_left
        · exact ih f t (by omega) hft htl hlo hhi
        have hw : IntKind.wrap .i64 (Int.tdiv (IntKind.wrap .i64 ((f : Int) + (t : Int))) 2) = (((f + t) / 2 : Nat) : Int) := by
          rw [wrap_i64 (n := (f : Int) + t) (by omega) (by omega)]
          have : Int.tdiv ((f : Int) + (t : Int)) 2 = (((f + t) / 2 : Nat) : Int) := by
            rw [Int.tdiv_eq_ediv_of_nonneg (by omega)]; omega
          rw [this, wrap_i64 (by omega) (by omega)]
        obtain ⟨m, hm⟩ : ∃ m, (f + t) / 2 = m := ⟨_, rfl⟩
        rw [hm] at hw
        have c0 : (0 : Int) ≤ (m : Int) := by omega
        have c1 : Nat.blt m l = true := Mem.blt_iff.2 (by omega)
        have hw2 : IntKind.wrap .i64 ((m : Int) + 1) = ((m + 1 : Nat) : Int) := by rw [wrap_i64 (by omega) (by omega)]; rfl
        obtain ⟨p, hp, l1, l2⟩ := pr_ld h (i := m) (by omega)
        simp only [int?_int, rvs, Int.reduceBEq, Int.reduceBNe, Int.cast_ofNat_Int, q, hw, c0, c1, Int.toNat_natCast, hp, Nat.add_zero, l1, l2, hw2] at hF
        by_cases e1 : (xs[m]'(by omega)).1 = k
        · simp only [e1, beq_self_eq_true, cond_true] at hF
          exact ⟨_, _, hF, .inl ⟨rfl, List.mem_iff_getElem.2 ⟨m, by omega, by rw [← e1]⟩⟩⟩
        · have e1' : ((xs[m]'(by omega)).1 == k) = false := by simpa using e1
          simp only [e1', cond_false] at hF
          by_cases e2 : (xs[m]'(by omega)).1 < k
          · simp only [e2, decide_true, cond_true] at hF
            obtain ⟨v, b, r1, r2⟩ := ih (m + 1) t (by omega) (by omega) htl (fun j hj2 hj => by
              by_cases e : j < m
              · have := hI.lt' e (by omega); omega
              · obtain rfl : j = m := by omega
                exact e2) hhi
            exact ⟨v, b, hF.trans r1, r2⟩
          · simp only [e2, decide_false, cond_false] at hF
            obtain ⟨v, b, r1, r2⟩ := ih f m (by omega) (by omega) (by omega) hlo (fun j hj hmj => by
              by_cases e : m < j
              · have := hI.lt' e (by omega); omega
              · obtain rfl : j = m := by omega
                omega)
            exact ⟨v, b, hF.trans r1, r2⟩
    obtain ⟨v, b, r1, r2⟩ := loop l 0 l (by omega) (by omega) (Nat.le_refl _) (fun j hj2 hj => by omega) (fun j hj hlj => by omega)
    exact ⟨v, b, c71 (hE.trans r1), fun hne => absurd h0 hne, fun _ => r2⟩
  · have : (chk xs != 0) = true := by simpa using h0
    simp only [this, cond_true] at hE
    exact ⟨0, false, c71 hE, fun _ => ⟨rfl, rfl⟩, fun h => absurd h h0⟩
end
end Go.Proofs.Ytidofnpfeibbfaa.M
set_option linter.unusedVariables false
set_option linter.unusedSimpArgs false
set_option linter.unnecessarySimpa false
set_option maxRecDepth 100000
namespace Go.Proofs.Ytidofnpfeibbfaa.M
open Go.Abs Go.RowKit
def inW (B : List Int) (x y : Nat) : Bool := decide (x ≤ B.length ∧ y ≤ B.length - x)
def ldV (B : List Int) (x y : Nat) : Int := if askE B.length x y = 0 then ((B.drop x).take y).foldl ldF 0 else 0
def mayF (n x y : Nat) : Bool := decide (x + 2 ≤ n) && decide (y + 2 ≤ n) && decide (x ≠ y) && decide (x % 2 = y % 2)
def wordB (B : List Int) (x : Nat) : Nat := (B.getD x 0 * 256 + B.getD (x + 1) 0).toNat
open Classical in
noncomputable def updN (f o n : Nat) : Nat := if h : f ≤ 65535 ∧ o ≤ 65535 ∧ n ≤ 65535 then Classical.choose (Update_C (M := Mem.empty) h.1 h.2.1 h.2.2) else 0
theorem updN_C {f o n : Nat} (hf : f ≤ 65535) (ho : o ≤ 65535) (hn : n ≤ 65535) : C 95 [.int .u16 (f : Int), .int .u16 (o : Int), .int .u16 (n : Int)] Mem.empty = some (.int .u16 (updN f o n : Int), Mem.empty) ∧ updN f o n ≤ 65535 := by
  have h := Classical.choose_spec (Update_C (M := Mem.empty) hf ho hn)
  unfold updN
  rw [dif_pos ⟨hf, ho, hn⟩]
  exact ⟨h.1, h.2.1⟩
def fixB (B : List Int) (x y z r : Nat) : List Int := (((B.set y (((z % 65536 : Nat) : Int) / 256)).set (y + 1) (((z % 65536 : Nat) : Int) % 256)).set x ((r : Int) / 256)).set (x + 1) ((r : Int) % 256)
def lookT (T : List Pr) (k : Int) : Int := ((T.find? (fun p => p.1 == k)).map (·.2)).getD 0
structure HSt where
  B : List Int
  cl : List (Int × List Int)
  to : Int
def movI (x : Nat) : Int := IntKind.wrap .i64 (x : Int)
def runA (scr : List (List Deed)) (σ : HSt) (k x y z : Nat) : ScS := (scr.getD k []).foldl ScS.deed ⟨(σ.B.drop x).take y, [], false, 0, (z : Int)⟩
noncomputable def helpA (tabs : List (List Pr)) (scr : List (List Deed)) (σ : HSt) (id : Int) (x y z : Nat) : Int × HSt :=
  if id = 1 then (if inW σ.B x y then ldV σ.B x y else 0, σ)
  else if id = 2 then (if inW σ.B x y ∧ askE σ.B.length x y = 0 then (1, { σ with B := storeB σ.B x y z }) else (0, σ))
  else if id = 3 then (if mayE σ.B.length (movI x) = 0 then (1, { σ with B := headB σ.B (movI x) }) else (0, σ))
  else if id = 4 then (if mayE σ.B.length (movI x) = 0 then (1, { σ with B := tailB σ.B (movI x) }) else (0, σ))
  else if id = 5 then (if mayF σ.B.length x y then (1, { σ with B := fixB σ.B x y z (updN (wordB σ.B x) (wordB σ.B y) (z % 65536)) }) else (0, σ))
  else if id = 6 then (if x < 8 ∧ σ.cl.length < 8 then (1, { σ with cl := σ.cl ++ [((x : Int), σ.B)] }) else (0, σ))
  else if id = 7 then (if x < 8 then (1, { σ with to := (x : Int) }) else (0, σ))
  else if id = 8 then (lookT (tabs.getD x []) (y : Int), σ)
  else if (id - 16).toNat < scr.length ∧ inW σ.B x y then ((runA scr σ (id - 16).toNat x y z).arg, { σ with B := σ.B.take x ++ ((runA scr σ (id - 16).toNat x y z).shown ++ σ.B.drop (x + y)) })
  else (0, σ)
noncomputable def callA (tabs : List (List Pr)) (scr : List (List Deed)) (σ : HSt) (id : Int) (x y z : Nat) : Int × Int × HSt :=
  if hpR id = false ∨ (id = 8 ∧ tabs.length ≤ x) then (0, 180, σ) else ((helpA tabs scr σ id x y z).1, 0, (helpA tabs scr σ id x y z).2)
theorem wfB.app {B B' : List Int} (h : wfB B) (h' : wfB B') : wfB (B ++ B') := fun c hc => by
  rcases List.mem_append.1 hc with h1 | h1
  · exact h c h1
  · exact h' c h1
theorem wfB.zeros (n : Nat) : wfB (List.replicate n 0) := fun c hc => by rw [List.eq_of_mem_replicate hc]; omega
theorem stB_wf (size v : Int) (i : Nat) : 0 ≤ stB size v i ∧ stB size v i < 256 := by unfold stB; rw [wu8]; omega
theorem stL_wf {size v : Int} : ∀ (d i : Nat) {S : List Int}, wfB S → wfB (stL size v d i S)
  | 0, _, _, h => h
  | d + 1, i, _, h => stL_wf d (i + 1) (h.set i (stB_wf size v i))
theorem storeB_wf {B : List Int} (h : wfB B) (at_ size v : Int) : wfB (storeB B at_ size v) := (h.take _).app ((stL_wf _ _ ((h.drop _).take _)).app (h.drop _))
theorem headB_wf {B : List Int} (h : wfB B) (n : Int) : wfB (headB B n) := by
  unfold headB; split
  · exact (wfB.zeros _).app h
  · exact h.drop _
theorem tailB_wf {B : List Int} (h : wfB B) (n : Int) : wfB (tailB B n) := by
  unfold tailB; split
  · exact h.app (wfB.zeros _)
  · exact h.take _
theorem fixB_wf {B : List Int} (h : wfB B) {x y z r : Nat} (hr : r ≤ 65535) : wfB (fixB B x y z r) := by
  unfold fixB
  exact (((h.set _ (by omega)).set _ (by omega)).set _ (by omega)).set _ (by omega)
theorem wrP_wf (at_ : Int) : ∀ (b : List Int) (k : Nat) {w : List Int}, wfB w → wfB b → wfB (wrP w at_ k b)
  | [], _, _, h, _ => h
  | c :: b, k, w, h, hb => by
    rw [wrP]
    have hc := hb c (by simp)
    have hb' : wfB b := fun c hc => hb c (by simp [hc])
    split
    · exact wrP_wf at_ b (k + 1) (h.set _ hc) hb'
    · exact wrP_wf at_ b (k + 1) h hb'
theorem ScS.wf_win {s : ScS} (h1 : wfB s.shown) (h2 : wfB s.own) : wfB s.win := by unfold ScS.win; split; exact h2; exact h1.drop _
theorem ScS.wf_step {s : ScS} (h1 : wfB s.shown) (h2 : wfB s.own) (k at_ : Int) {b : List Int} (hb : wfB b) : wfB (s.step k at_ b).shown ∧ wfB (s.step k at_ b).own := by
  have hw := ScS.wf_win h1 h2
  unfold ScS.step
  split
  · split <;> exact ⟨h1, h2⟩
  split
  · unfold ScS.put
    split
    · exact ⟨h1, wrP_wf _ _ _ hw hb⟩
    · exact ⟨(h1.take _).app (wrP_wf _ _ _ hw hb), h2⟩
  split
  · split
    · split
      · exact ⟨h1, h2.drop _⟩
      · exact ⟨h1, h2⟩
    · exact ⟨h1, h2⟩
  split
  · split
    · exact ⟨h1, hw.app hb⟩
    · exact ⟨h1, h2⟩
  · exact ⟨h1, h2⟩
theorem fold_wf : ∀ (L : List Deed) (s : ScS), (∀ d ∈ L, DeedOk d) → wfB s.shown → wfB s.own → wfB (L.foldl ScS.deed s).shown
  | [], _, _, h, _ => h
  | d :: L, s, hk, h1, h2 => by
    have h3 := ScS.wf_step h1 h2 d.1 d.2.1 (hk d (by simp)).2.2.2
    exact fold_wf L (s.deed d) (fun d hd => hk d (by simp [hd])) h3.1 h3.2
theorem helpA_wf {tabs : List (List Pr)} {scr : List (List Deed)} {σ : HSt} (h : wfB σ.B) (hS : ∀ L ∈ scr, ∀ d ∈ L, DeedOk d) (id : Int) (x y z : Nat) : wfB (helpA tabs scr σ id x y z).2.B := by
  unfold helpA
  split
  · exact h
  split
  · split
    · exact storeB_wf h _ _ _
    · exact h
  split
  · split
    · exact headB_wf h _
    · exact h
  split
  · split
    · exact tailB_wf h _
    · exact h
  split
  · split
    · refine fixB_wf h ?_
      unfold updN
      split
      · rename_i hh
        exact (Classical.choose_spec (Update_C (M := Mem.empty) hh.1 hh.2.1 hh.2.2)).2.1
      · omega
    · exact h
  split
  · split <;> exact h
  split
  · split <;> exact h
  split
  · exact h
  split
  · rename_i hk
    refine (h.take _).app (wfB.app ?_ (h.drop _))
    unfold runA
    refine fold_wf _ _ (fun d hd => ?_) ((h.drop _).take _) (fun c hc => by simp at hc)
    rw [List.getD_eq_getElem?_getD, List.getElem?_eq_getElem hk.1, Option.getD_some] at hd
    exact hS _ (List.getElem_mem hk.1) d hd
  · exact h
end Go.Proofs.Ytidofnpfeibbfaa.M
