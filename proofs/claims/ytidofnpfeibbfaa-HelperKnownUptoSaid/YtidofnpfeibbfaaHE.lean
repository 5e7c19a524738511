import Derived.Test.YtidofnpfeibbfaaHT
import Derived.Test.YtidofnpfeibbfaaAV
import Derived.Test.YtidofnpfeibbfaaXLib7
import Derived.Test.YtidofnpfeibbfaaT
import Derived.Test.YtidofnpfeibbfaaXLib4
import Derived.Test.YtidofnpfeibbfaaXLaw
import Derived.Test.YtidofnpfeibbfaaXFc
set_option linter.unusedVariables false
set_option linter.unusedSimpArgs false
set_option linter.unnecessarySimpa false
set_option maxRecDepth 100000
namespace Go.Proofs.Ytidofnpfeibbfaa.M
open Go.Abs Go.RowKit
def Sta (k : Nat) (M : Mem) (role : Nat → Rj) (P : Mem → Prop) : Prop := ∀ M', M.n ≤ M'.n → (∀ o, o < M.n → role o = .other k → M'.get o = M.get o) → P M'
section
variable {M0 M M' : Mem} {role role' role'' : Nat → Rj} {k : Nat} {P Q : Mem → Prop}
theorem Sta.now (h : Sta k M role P) : P M := h M (Nat.le_refl _) (fun _ _ _ => rfl)
theorem Sta.next (h : Sta k M role P) (hn : M.n ≤ M'.n) (hg : ∀ o, o < M.n → role o = .other k → M'.get o = M.get o) (hr : ∀ o, o < M.n → role' o = role o) : Sta k M' role' P :=
  fun M2 h1 h2 => h M2 (by omega) (fun o ho hro => by rw [h2 o (by omega) (by rw [hr o ho]; exact hro), hg o ho hro])
theorem Sta.mono (h : Sta k M role P) (hi : ∀ M', P M' → Q M') : Sta k M role Q := fun M2 h1 h2 => hi _ (h M2 h1 h2)
theorem Sta.and (h : Sta k M role P) (h' : Sta k M role Q) : Sta k M role (fun M => P M ∧ Q M) := fun M2 h1 h2 => ⟨h M2 h1 h2, h' M2 h1 h2⟩
theorem Sta.const {p : Prop} (h : p) : Sta k M role (fun _ => p) := fun _ _ _ => h
structure Fo (role role' : Nat → Rj) (M M' : Mem) : Prop where
  n : M.n ≤ M'.n
  get : ∀ y, y < M.n → (∃ k, role y = .other k ∧ k ≠ 1 ∧ k ≠ 2) → M'.get y = M.get y
  rl : ∀ y, y < M.n → role' y = role y
theorem Fj.fo (h : Fj false role role' M M') : Fo role role' M M' := ⟨h.n, fun y hy ⟨k, hk, _⟩ => h.get y hy (by rw [hk]; exact nofun), h.rl⟩
theorem Fo.refl (role : Nat → Rj) (M : Mem) : Fo role role M M := ⟨Nat.le_refl _, fun _ _ _ => rfl, fun _ _ => rfl⟩
theorem Fo.trans (h : Fo role role' M M') {M'' : Mem} (h' : Fo role' role'' M' M'') : Fo role role'' M M'' :=
  ⟨Nat.le_trans h.n h'.n, fun y hy hk => by rw [h'.get y (Nat.lt_of_lt_of_le hy h.n) (by rw [h.rl y hy]; exact hk), h.get y hy hk], fun y hy => by rw [h'.rl y (Nat.lt_of_lt_of_le hy h.n), h.rl y hy]⟩
theorem Sta.fo (h : Sta k M role P) (F : Fo role role' M M') (h1 : k ≠ 1) (h2 : k ≠ 2) : Sta k M' role' P := h.next F.n (fun o ho hr => F.get o ho ⟨k, hr, h1, h2⟩) F.rl
theorem Sta.fj (h : Sta k M role P) (F : Fj false role role' M M') : Sta k M' role' P := h.next F.n (fun o ho hr => F.get o ho (by rw [hr]; exact nofun)) F.rl
def extK (k : Nat) (role : Nat → Rj) (n : Nat) : Nat → Rj := fun y => if y < n then role y else .other k
theorem extK_lt {n y : Nat} (h : y < n) : extK k role n y = role y := if_pos h
theorem extK_ge {n y : Nat} (h : n ≤ y) : extK k role n y = .other k := if_neg (by omega)
theorem Fj.extK (k : Nat) (role : Nat → Rj) (hu : M.Upto M') : Fj false role (extK k role M.n) M M' := ⟨hu.1, fun y hy _ => hu.2 y hy, fun y hy => extK_lt hy⟩
theorem GS.extK {b : Bool} {K : Kd} {hs : List Nat} {cur : List (Option Nat)} {gs : List Gp} {ds : List Dt} (H : GS b K M0 M role hs cur gs ds) (k : Nat) (hu : M.Upto M') : GS b K M0 M' (extK k role M.n) hs cur gs ds := H.frame (H.up.trans hu) (fun y hy _ => hu.2 y hy) (fun y hy => extK_lt hy)
theorem GS.oth {hs : List Nat} {cur : List (Option Nat)} {gs : List Gp} {ds : List Dt} (H : GS false KI M0 M role hs cur gs ds) {S : Nat → Prop} (hb : Mem.But S M M') (hS : ∀ y, S y → y < M.n → M0.n ≤ y ∧ (role y).side ≠ some false) (hr : ∀ y, y < M.n → role' y = role y) : GS false KI M0 M' role' hs cur gs ds :=
  H.frame ⟨by have := H.up.1; have := hb.1; omega, fun o ho => by
    have := H.up.1
    by_cases hs : S o
    · have := (hS o hs (by omega)).1; omega
    · rw [hb.2 o (by omega) hs, H.up.2 o ho]⟩ (fun y hy hs => hb.2 y hy (fun h => (hS y h hy).2 hs)) hr
end
structure Sw (i : Nat) (B : List Int) (N : Nat) (cur : List (Option Nat)) (ds : List Dt) (cur' : List (Option Nat)) (ds' : List Dt) : Prop where
  len : cur'.length = cur.length
  me : ∃ g d, cur'[i]? = some (some g) ∧ ds'[g]? = some d ∧ d.B = B ∧ d.mv ≤ N
  oth : ∀ j c, j ≠ i → cur[j]? = some c → ∃ c', cur'[j]? = some c' ∧ bytesO ds' c' = bytesO ds c
theorem Sw.trans {i : Nat} {B B' : List Int} {N N' : Nat} {cur cur' cur'' : List (Option Nat)} {ds ds' ds'' : List Dt} (h : Sw i B N cur ds cur' ds') (h' : Sw i B' N' cur' ds' cur'' ds'') : Sw i B' N' cur ds cur'' ds'' :=
  ⟨h'.len.trans h.len, h'.me, fun j c hj hc => by
    obtain ⟨c1, e1, e2⟩ := h.oth j c hj hc
    obtain ⟨c2, e3, e4⟩ := h'.oth j c1 hj e1
    exact ⟨c2, e3, e4.trans e2⟩⟩
theorem Sw.refl {i g N : Nat} {cur : List (Option Nat)} {ds : List Dt} {d : Dt} (hc : cur[i]? = some (some g)) (hd : ds[g]? = some d) (hN : d.mv ≤ N) : Sw i d.B N cur ds cur ds := ⟨rfl, ⟨g, d, hc, hd, rfl, hN⟩, fun j c _ h => ⟨c, h, rfl⟩⟩
theorem two_count {cur : List (Option Nat)} {i j g : Nat} (hne : i ≠ j) (hi : cur[i]? = some (some g)) (hj : cur[j]? = some (some g)) : 1 < cur.count (some g) := by
  have h := cnt_set (y := none) hi g
  have h2 : (cur.set i none)[j]? = some (some g) := by rw [List.getElem?_set, if_neg hne]; exact hj
  have h3 := cnt_pos h2
  simp only [if_true, reduceCtorEq, if_false, Nat.add_zero] at h
  omega
theorem bytesO_app {ds : List Dt} {e : Dt} {c : Option Nat} (h : ∀ g, c = some g → g < ds.length) : bytesO (ds ++ [e]) c = bytesO ds c := by
  cases c with
  | none => rfl
  | some g => unfold bytesO; simp only; rw [List.getElem?_append_left (h g rfl)]
section
variable {b : Bool} {K : Kd} {M0 M : Mem} {role : Nat → Rj} {hs : List Nat} {cur : List (Option Nat)} {gs : List Gp} {ds : List Dt} {i g : Nat} {d : Dt}
theorem GS.sw (H : GS b K M0 M role hs cur gs ds) (hc : cur[i]? = some (some g)) (hd : ds[g]? = some d) (e : Dt) {N : Nat} (hN : e.mv ≤ N) : Sw i e.B N cur ds (oC cur ds.length i g) ((oD cur ds g d).set (oG cur ds.length g) e) := by
  have hil : i < cur.length := (List.getElem?_eq_some_iff.1 hc).1
  have hgl : g < ds.length := (List.getElem?_eq_some_iff.1 hd).1
  have hin : ∀ j c, cur[j]? = some c → ∀ g, c = some g → g < ds.length := fun j c h g' e => by
    rw [e] at h; rw [← H.lend]; exact H.inb j g' h
  unfold oC oD oG
  by_cases h1 : 1 < cur.count (some g)
  · rw [if_pos h1, if_pos h1, if_pos h1]
    refine ⟨by simp, ⟨ds.length, e, by rw [List.getElem?_set, if_pos rfl, if_pos hil], by simp, rfl, hN⟩, fun j c hj hcj => ⟨c, by rw [List.getElem?_set, if_neg (fun h => hj h.symm)]; exact hcj, ?_⟩⟩
    rw [List.set_append_right _ _ (Nat.le_refl _), Nat.sub_self, List.set_cons_zero]
    exact bytesO_app (hin j c hcj)
  · rw [if_neg h1, if_neg h1, if_neg h1]
    refine ⟨rfl, ⟨g, e, hc, by rw [List.getElem?_set, if_pos rfl, if_pos hgl], rfl, hN⟩, fun j c hj hcj => ⟨c, hcj, ?_⟩⟩
    cases c with
    | none => rfl
    | some g' =>
      have hne : g ≠ g' := fun e2 => by
        subst e2
        apply h1
        exact two_count (fun h => hj h.symm) hc hcj
      unfold bytesO
      simp only
      rw [List.getElem?_set, if_neg hne]
end
end Go.Proofs.Ytidofnpfeibbfaa.M
set_option linter.unusedVariables false
set_option linter.unusedSimpArgs false
set_option linter.unnecessarySimpa false
namespace Go.Proofs.Ytidofnpfeibbfaa.M
open Go.Abs
def wt (i : Nat) : Int := if i % 2 = 0 then 256 else 1
theorem fold_mod (n : Nat) : (n / 65536 + n % 65536) % 65535 = n % 65535 := by omega
end Go.Proofs.Ytidofnpfeibbfaa.M
set_option linter.unusedVariables false
set_option linter.unusedSimpArgs false
set_option linter.unnecessarySimpa false
set_option maxRecDepth 100000
namespace Go.Proofs.Ytidofnpfeibbfaa.M
open Go.Abs
section
variable {M : Mem}
theorem fold_C : ∀ (N n : Nat) (M : Mem), n ≤ N → n < 2 ^ 62 → ∃ r : Nat, p48_1 C prog.meth (n : Int) M = some (.int .u16 (r : Int), M) ∧ r ≤ 65535 ∧ r % 65535 = n % 65535 := by
  intro N
  induction N with
  | zero =>
    intro n M hN hn
    have hE := p48_1_eq C prog.meth (n : Int) M
    have q : ¬ ((n : Int) > 65535) := by omega
    have w : IntKind.wrap .u16 (n : Int) = (n : Int) := by rw [wu16]; omega
    simp only [q, decide_false, cond_false, w] at hE
    exact ⟨n, hE, by omega, rfl⟩
  | succ N ih =>
    intro n M hN hn
    have hE := p48_1_eq C prog.meth (n : Int) M
    by_cases q : (n : Int) > 65535
    · have e1 : Int.fdiv (n : Int) (2 ^ Nat.min 16 (IntKind.bits .u64)) = ((n / 65536 : Nat) : Int) := by
        have : (2 : Int) ^ Nat.min 16 (IntKind.bits .u64) = 65536 := by decide
        rw [this, Int.fdiv_eq_ediv_of_nonneg _ (by omega)]; omega
      have e2 : (BitVec.ofInt (IntKind.bits .u64) (n : Int) &&& BitVec.ofInt (IntKind.bits .u64) 65535).toNat = n % 65536 := by
        have := and_nat n 65535 (by omega) (by omega)
        rw [show (65535 : Int) = ((65535 : Nat) : Int) from rfl, this]
        exact Nat.and_two_pow_sub_one_eq_mod n 16
      have e3 : IntKind.wrap .u64 (((n / 65536 : Nat) : Int) + IntKind.wrap .u64 ((n % 65536 : Nat) : Int)) = ((n / 65536 + n % 65536 : Nat) : Int) := by
        rw [wu64, wu64]; omega
      simp only [q, decide_true, cond_true, e1, e2, e3] at hE
      obtain ⟨r, r1, r2, r3⟩ := ih (n / 65536 + n % 65536) M (by omega) (by omega)
      exact ⟨r, hE.trans r1, r2, by rw [r3, fold_mod]⟩
    · have w : IntKind.wrap .u16 (n : Int) = (n : Int) := by rw [wu16]; omega
      simp only [q, decide_false, cond_false, w] at hE
      exact ⟨n, hE, by omega, rfl⟩
theorem Fold_C {n : Nat} (hn : n < 2 ^ 62) : ∃ r : Nat, C 48 [.int .u64 (n : Int)] M = some (.int .u16 (r : Int), M) ∧ r ≤ 65535 ∧ r % 65535 = n % 65535 := by
  obtain ⟨r, r1, r2, r3⟩ := fold_C n n M (Nat.le_refl _) hn
  exact ⟨r, c48 ((p48_0_eq C prog.meth (n : Int) M).trans r1), r2, r3⟩
theorem Add_C {a b : Nat} (ha : a ≤ 65535) (hb : b ≤ 65535) : ∃ r : Nat, C 106 [.int .u16 (a : Int), .int .u16 (b : Int)] M = some (.int .u16 (r : Int), M) ∧ r ≤ 65535 ∧ r % 65535 = (a + b) % 65535 := by
  have hE := p106_0_eq C prog.meth (a : Int) (b : Int) M
  obtain ⟨r, r1, r2, r3⟩ := Fold_C (M := Mem.empty) (n := a + b) (by omega)
  have w : IntKind.wrap .u64 (IntKind.wrap .u64 (a : Int) + IntKind.wrap .u64 (b : Int)) = ((a + b : Nat) : Int) := by rw [wu64, wu64, wu64]; omega
  rw [w, r1, Option.bind_some] at hE
  simp only [int?_int, rvs, Int.reduceBEq, Int.reduceBNe, Int.cast_ofNat_Int] at hE
  exact ⟨r, c106 hE, r2, r3⟩
theorem compl16 {x : Nat} (h : x ≤ 65535) : IntKind.wrap .u16 (((BitVec.ofInt (IntKind.bits .u16) (IntKind.max .u16) ^^^ BitVec.ofInt (IntKind.bits .u16) (x : Int)).toNat : Nat) : Int) = ((65535 - x : Nat) : Int) := by
  have e1 : BitVec.ofInt 16 (IntKind.max .u16) = BitVec.allOnes 16 := by decide
  have e2 : (BitVec.ofInt (IntKind.bits .u16) (x : Int) : BitVec 16) = BitVec.ofNat 16 x := by
    show BitVec.ofInt 16 (x : Int) = _
    rw [BitVec.ofInt_natCast]
  have e3 : (BitVec.ofInt (IntKind.bits .u16) (IntKind.max .u16) ^^^ BitVec.ofInt (IntKind.bits .u16) (x : Int)).toNat = 65535 - x := by
    show (BitVec.ofInt 16 (IntKind.max .u16) ^^^ BitVec.ofInt 16 (x : Int)).toNat = _
    rw [e1, show (BitVec.ofInt 16 (x : Int)) = BitVec.ofNat 16 x from e2, BitVec.allOnes_xor, BitVec.toNat_not, BitVec.toNat_ofNat]
    omega
  rw [e3, wu16]; omega
theorem Update_C {f o n : Nat} (hf : f ≤ 65535) (ho : o ≤ 65535) (hn : n ≤ 65535) : ∃ r : Nat, C 95 [.int .u16 (f : Int), .int .u16 (o : Int), .int .u16 (n : Int)] M = some (.int .u16 (r : Int), M) ∧ r ≤ 65535 ∧ (r + n) % 65535 = (f + o) % 65535 := by
  have hE := p95_0_eq C prog.meth (f : Int) (o : Int) (n : Int) M
  obtain ⟨x, x1, x2, x3⟩ := Add_C (M := Mem.empty) (a := 65535 - f) (b := 65535 - o) (by omega) (by omega)
  obtain ⟨y, y1, y2, y3⟩ := Add_C (M := Mem.empty) x2 hn
  rw [compl16 hf, compl16 ho, x1, Option.bind_some] at hE
  simp only [int?_int, rvs, Int.reduceBEq, Int.reduceBNe, Int.cast_ofNat_Int] at hE
  rw [y1, Option.bind_some] at hE
  simp only [int?_int, rvs, Int.reduceBEq, Int.reduceBNe, Int.cast_ofNat_Int] at hE
  rw [compl16 y2] at hE
  exact ⟨65535 - y, c95 hE, by omega, by omega⟩
end
theorem load2 {B : List Int} (hw : wfB B) {k : Nat} (h : k + 2 ≤ B.length) : ((B.drop ((k : Int)).toNat).take (2 : Int).toNat).foldl ldF 0 = B[k]'(by omega) * 256 + B[k + 1]'(by omega) := by
  have e : (B.drop ((k : Int)).toNat).take (2 : Int).toNat = [B[k]'(by omega), B[k + 1]'(by omega)] := by
    rw [Int.toNat_natCast, List.drop_eq_getElem_cons (by omega), List.drop_eq_getElem_cons (by omega)]; rfl
  have h0 := hw _ (List.getElem_mem (show k < B.length by omega))
  have h1 := hw _ (List.getElem_mem (show k + 1 < B.length by omega))
  rw [e, List.foldl_cons, List.foldl_cons, List.foldl_nil, ldF_ldR (by omega) h0, ldF_ldR (ldR_pos _ _) h1]
  unfold ldR
  rw [wu64, wu64, wu64, wu64, wu64, wu64]
  omega
theorem store2 {B : List Int} {k : Nat} {V : Int} (h : k + 2 ≤ B.length) (h0 : 0 ≤ V ∧ V < 65536) : storeB B (k : Int) 2 V = (B.set k (V / 256)).set (k + 1) (V % 256) := by
  have := stR_storeB (B := B) (k := k) (n := 2) (V := V) h0.1 (by omega) (by omega) (by omega)
  rw [show ((2 : Nat) : Int) = 2 from rfl] at this
  rw [← this]
  rw [stR, stR, stR]
  show (B.set (k + 1) _).set k _ = _
  rw [List.set_comm _ _ (show k + 1 ≠ k by omega)]
  congr 1
  · congr 1
    rw [Int.tdiv_eq_ediv_of_nonneg (by omega), wu64, Int.tmod_eq_emod_of_nonneg (by omega), wu8]; omega
  · rw [Int.tmod_eq_emod_of_nonneg (by omega), wu8]; omega
section
variable {M0 M : Mem} {role : Nat → Rj} {gs : List Gp} {B : List Int} {A T mv s hd : Nat}
structure Hnd (M0 M : Mem) (role : Nat → Rj) (gs : List Gp) (B : List Int) (A T mv s hd : Nat) (cs : List AVal) : Prop where
  I : GS false KI M0 M role [s] [some 0] gs [⟨B, A, T, mv⟩]
  gh : M.get hd = some ⟨.ptr (some (s, 0)) :: cs, .fixed⟩
  rh : role hd = .other 0
  hM : M0.n ≤ hd
theorem GS.ext' {b : Bool} {K : Kd} {hs : List Nat} {cur : List (Option Nat)} {ds : List Dt} {M' : Mem} (H : GS b K M0 M role hs cur gs ds) (hu : M.Upto M') : GS b K M0 M' (fun y => if y < M.n then role y else .other 0) hs cur gs ds := H.frame (H.up.trans hu) (fun y hy _ => hu.2 y hy) (fun y hy => if_pos hy)
theorem Hnd.upto {cs : List AVal} {M' : Mem} (H : Hnd M0 M role gs B A T mv s hd cs) (hu : M.Upto M') : Hnd M0 M' (fun y => if y < M.n then role y else .other 0) gs B A T mv s hd cs :=
  ⟨H.I.ext' hu, hu.get H.gh, by rw [if_pos (Mem.get_lt H.gh)]; exact H.rh, H.hM⟩
end
end Go.Proofs.Ytidofnpfeibbfaa.M
set_option linter.unusedVariables false
set_option linter.unusedSimpArgs false
set_option linter.unnecessarySimpa false
set_option maxRecDepth 100000
namespace Go.Proofs.Ytidofnpfeibbfaa.M
open Go.Abs Go.RowKit
abbrev Pr := Int × Int
def encP (p : Pr) : List AVal := [.int .u64 p.1, .int .u64 p.2]
theorem encP2 : Enc 2 encP := fun _ => rfl
section
variable {M M' : Mem} {a a' : Option (Nat × Nat)} {l l' : Nat} {c c' : Cap} {xs ys : List Pr}
theorem pr_ld (h : Sl M 2 encP a l c xs) {i : Nat} (hi : i < l) : ∃ p, slPtr a c = some p ∧ M.ldI .u64 p.1 (p.2 + i * 2) = some (xs[i]'(by have := h.2; omega)).1 ∧ M.ldI .u64 p.1 (p.2 + i * 2 + 1) = some (xs[i]'(by have := h.2; omega)).2 := by
  obtain ⟨p, h1, h2⟩ := h.get encP2 (by omega) hi
  have h3 := h2 0 (by omega)
  have h4 := h2 1 (by omega)
  refine ⟨p, h1, ldI_ld.2 ?_, ldI_ld.2 ?_⟩
  · rw [Nat.add_zero] at h3; exact h3
  · rw [Nat.add_assoc]; exact h4
def Inc (xs : List Pr) : Prop := ∀ i (h : i + 1 < xs.length), (xs[i]'(by omega)).1 < (xs[i + 1]'h).1
theorem Inc.lt (h : Inc xs) : ∀ (d i : Nat) (hj : i + d + 1 < xs.length), (xs[i]'(by omega)).1 < (xs[i + d + 1]'hj).1
  | 0, i, hj => h i hj
  | d + 1, i, hj => Int.lt_trans (Inc.lt h d i (by omega)) (h (i + d + 1) hj)
theorem Inc.lt' (h : Inc xs) {i j : Nat} (hij : i < j) (hj : j < xs.length) : (xs[i]'(by omega)).1 < (xs[j]'hj).1 := by
  obtain ⟨d, rfl⟩ : ∃ d, j = i + d + 1 := ⟨j - i - 1, by omega⟩
  exact h.lt d i hj
open Classical in
noncomputable def chk (xs : List Pr) : Int := if xs.length > 64 then 3 else if Inc xs then 0 else 190
theorem chk_zero (h : chk xs = 0) : xs.length ≤ 64 ∧ Inc xs := by
  unfold chk at h
  split at h
  · cases h
  · split at h
    · exact ⟨by omega, by assumption⟩
    · cases h
theorem chk_of (h : xs.length ≤ 64) (h2 : Inc xs) : chk xs = 0 := by unfold chk; rw [if_neg (by omega), if_pos h2]
theorem TCheck_C (h : Sl M 2 encP a l c xs) : C 42 [.sl a l c] M = some (.int .i64 (chk xs), M) := by
  have hE := p42_0_eq C prog.meth a l c M
  have hl := h.2
  by_cases h0 : (l : Int) > 64
  · simp only [h0, decide_true, cond_true] at hE
    rw [show chk xs = 3 by unfold chk; rw [if_pos (by omega)]]
    exact c42 hE
  · simp only [h0, decide_false, cond_false] at hE
    have loop : ∀ (d i : Nat), i + d = l → (∀ j (hj2 : j + 1 < l), j + 1 < i → (xs[j]'(by omega)).1 < (xs[j + 1]'(by omega)).1) → p42_1 C prog.meth a l c (l : Int) (i : Int) M = some (.int .i64 (chk xs), M) := by
      intro d
      induction d with
      | zero =>
        intro i hi hs
        have hF := p42_1_eq C prog.meth a l c (l : Int) (i : Int) M
        have q : ¬ ((i : Int) < (l : Int)) := by omega
        simp only [q, decide_false, cond_false] at hF
        rw [chk_of (by omega) (fun j hj => hs j (by omega) (by omega))]
        exact hF
      | succ d ih =>
        intro i hi hs
        have hF := p42_1_eq C prog.meth a l c (l : Int) (i : Int) M
        have q : ((i : Int) < (l : Int)) := by omega
        have hw : IntKind.wrap .i64 ((i : Int) + 1) = ((i + 1 : Nat) : Int) := by rw [wrap_i64 (by omega) (by omega)]; rfl
        by_cases h1 : (i : Int) > 0
        · obtain ⟨m, rfl⟩ : ∃ m, i = m + 1 := ⟨i - 1, by omega⟩
          have hw2 : IntKind.wrap .i64 (((m + 1 : Nat) : Int) - 1) = (m : Int) := by rw [wrap_i64 (by omega) (by omega)]; omega
          have c0 : (0 : Int) ≤ ((m + 1 : Nat) : Int) := by omega
          have c1 : Nat.blt (m + 1) l = true := Mem.blt_iff.2 (by omega)
          have c2 : Nat.blt m l = true := Mem.blt_iff.2 (by omega)
          have c3 : (0 : Int) ≤ (m : Int) := by omega
          obtain ⟨p, hp, l1, _⟩ := pr_ld h (i := m + 1) (by omega)
          obtain ⟨p', hp', l2, _⟩ := pr_ld h (i := m) (by omega)
          rw [hp] at hp'; cases hp'
          by_cases h2 : (xs[m + 1]'(by omega)).1 ≤ (xs[m]'(by omega)).1
          · simp only [int?_int, rvs, Int.reduceBEq, Int.reduceBNe, Int.cast_ofNat_Int, q, h1, c0, c1, c2, c3, Int.toNat_natCast, hp, Nat.add_zero, l1, hw2, l2, h2] at hF
            have : chk xs = 190 := by
              unfold chk
              rw [if_neg (by omega), if_neg (fun hI => by have := hI m (by omega); omega)]
            rw [this]; exact hF
          · simp only [int?_int, rvs, Int.reduceBEq, Int.reduceBNe, Int.cast_ofNat_Int, q, h1, c0, c1, c2, c3, Int.toNat_natCast, hp, Nat.add_zero, l1, hw2, l2, h2, hw] at hF
            rw [hF]
            exact ih (m + 1 + 1) (by omega) (fun j hj2 hj => by
              by_cases e : j + 1 < m + 1
              · exact hs j hj2 e
              · obtain rfl : j = m := by omega
                omega)
        · simp only [int?_int, rvs, Int.reduceBEq, Int.reduceBNe, Int.cast_ofNat_Int, q, h1, hw] at hF
          rw [hF]
          exact ih (i + 1) (by omega) (fun j hj2 hj => by omega)
    exact c42 (hE.trans (loop l 0 (by omega) (fun j hj2 hj => by omega)))
end
section
variable {M M' : Mem} {a a' : Option (Nat × Nat)} {l l' : Nat} {c c' : Cap} {xs ys : List Pr}
def IsLk (xs : List Pr) (k v : Int) (b : Bool) : Prop := (b = true ∧ (k, v) ∈ xs) ∨ (b = false ∧ v = 0 ∧ ∀ p ∈ xs, p.1 ≠ k)
theorem Inc.uniq (h : Inc xs) {k v w : Int} (h1 : (k, v) ∈ xs) (h2 : (k, w) ∈ xs) : v = w := by
  obtain ⟨i, hi, e1⟩ := List.mem_iff_getElem.1 h1
  obtain ⟨j, hj, e2⟩ := List.mem_iff_getElem.1 h2
  rcases Nat.lt_trichotomy i j with hij | rfl | hij
  · have := h.lt' hij hj
    rw [e1, e2] at this; simp only at this; omega
  · rw [e1] at e2; cases e2; rfl
  · have := h.lt' hij hi
    rw [e1, e2] at this; simp only at this; omega
theorem IsLk.uniq (h : Inc xs) {k v w : Int} {b b' : Bool} (h1 : IsLk xs k v b) (h2 : IsLk xs k w b') : v = w ∧ b = b' := by
  rcases h1 with ⟨rfl, m1⟩ | ⟨rfl, rfl, n1⟩ <;> rcases h2 with ⟨rfl, m2⟩ | ⟨rfl, rfl, n2⟩
  · exact ⟨h.uniq m1 m2, rfl⟩
  · exact absurd rfl (n2 _ m1)
  · exact absurd rfl (n1 _ m2)
  · exact ⟨rfl, rfl⟩
theorem Find_C (h : Sl M 2 encP a l c xs) (k : Int) : ∃ v b, C 71 [.sl a l c, .int .u64 k] M = some (.tup [.int .u64 v, .bool b], M) ∧ (chk xs ≠ 0 → v = 0 ∧ b = false) ∧ (chk xs = 0 → IsLk xs k v b) := by
  have hE := p71_0_eq C prog.meth a l c k M
  have hl := h.2
  simp only [int?_int, rvs, Int.reduceBEq, Int.reduceBNe, Int.cast_ofNat_Int, TCheck_C h] at hE
  by_cases h0 : chk xs = 0
  · obtain ⟨h64, hI⟩ := chk_zero h0
    simp only [h0, bne_self_eq_false, cond_false] at hE
    have loop : ∀ (d f t : Nat), t - f ≤ d → f ≤ t → t ≤ l → (∀ j (hj2 : j < l), j < f → (xs[j]'(by omega)).1 < k) → (∀ j (hj : j < l), t ≤ j → k < (xs[j]'(by omega)).1) → ∃ v b, p71_1 C prog.meth a l c k (f : Int) (t : Int) M = some (.tup [.int .u64 v, .bool b], M) ∧ IsLk xs k v b := by
      intro d
      induction d with
      | zero =>
        intro f t hd hft htl hlo hhi
        have hF := p71_1_eq C prog.meth a l c k (f : Int) (t : Int) M
        have q : ¬ ((f : Int) < (t : Int)) := by omega
        simp only [q, decide_false, cond_false] at hF
        refine ⟨0, false, hF, .inr ⟨rfl, rfl, fun p hp => ?_⟩⟩
        obtain ⟨j, hj, rfl⟩ := List.mem_iff_getElem.1 hp
        by_cases e : j < f
        · have := hlo j (by omega) e; omega
        · have := hhi j (by omega) (by omega); omega
      | succ d ih =>
        intro f t hd hft htl hlo hhi
        have hF := p71_1_eq C prog.meth a l c k (f : Int) (t : Int) M
        by_cases q : ((f : Int) < (t : Int))
        rotate_left
        · exact ih f t (by omega) hft htl hlo hhi
        have hw : IntKind.wrap .i64 (Int.tdiv (IntKind.wrap .i64 ((f : Int) + (t : Int))) 2) = (((f + t) / 2 : Nat) : Int) := by
          rw [wrap_i64 (n := (f : Int) + t) (by omega) (by omega)]
          have : Int.tdiv ((f : Int) + (t : Int)) 2 = (((f + t) / 2 : Nat) : Int) := by
            rw [Int.tdiv_eq_ediv_of_nonneg (by omega)]; omega
          rw [this, wrap_i64 (by omega) (by omega)]
        obtain ⟨m, hm⟩ : ∃ m, (f + t) / 2 = m := ⟨_, rfl⟩
        rw [hm] at hw
        have c0 : (0 : Int) ≤ (m : Int) := by omega
        have c1 : Nat.blt m l = true := Mem.blt_iff.2 (by omega)
        have hw2 : IntKind.wrap .i64 ((m : Int) + 1) = ((m + 1 : Nat) : Int) := by rw [wrap_i64 (by omega) (by omega)]; rfl
        obtain ⟨p, hp, l1, l2⟩ := pr_ld h (i := m) (by omega)
        simp only [int?_int, rvs, Int.reduceBEq, Int.reduceBNe, Int.cast_ofNat_Int, q, hw, c0, c1, Int.toNat_natCast, hp, Nat.add_zero, l1, l2, hw2] at hF
        by_cases e1 : (xs[m]'(by omega)).1 = k
        · simp only [e1, beq_self_eq_true, cond_true] at hF
          exact ⟨_, _, hF, .inl ⟨rfl, List.mem_iff_getElem.2 ⟨m, by omega, by rw [← e1]⟩⟩⟩
        · have e1' : ((xs[m]'(by omega)).1 == k) = false := by simpa using e1
          simp only [e1', cond_false] at hF
          by_cases e2 : (xs[m]'(by omega)).1 < k
          · simp only [e2, decide_true, cond_true] at hF
            obtain ⟨v, b, r1, r2⟩ := ih (m + 1) t (by omega) (by omega) htl (fun j hj2 hj => by
              by_cases e : j < m
              · have := hI.lt' e (by omega); omega
              · obtain rfl : j = m := by omega
                exact e2) hhi
            exact ⟨v, b, hF.trans r1, r2⟩
          · simp only [e2, decide_false, cond_false] at hF
            obtain ⟨v, b, r1, r2⟩ := ih f m (by omega) (by omega) (by omega) hlo (fun j hj hmj => by
              by_cases e : m < j
              · have := hI.lt' e (by omega); omega
              · obtain rfl : j = m := by omega
                omega)
            exact ⟨v, b, hF.trans r1, r2⟩
    obtain ⟨v, b, r1, r2⟩ := loop l 0 l (by omega) (by omega) (Nat.le_refl _) (fun j hj2 hj => by omega) (fun j hj hlj => by omega)
    exact ⟨v, b, c71 (hE.trans r1), fun hne => absurd h0 hne, fun _ => r2⟩
  · have : (chk xs != 0) = true := by simpa using h0
    simp only [this, cond_true] at hE
    exact ⟨0, false, c71 hE, fun _ => ⟨rfl, rfl⟩, fun h => absurd h h0⟩
end
end Go.Proofs.Ytidofnpfeibbfaa.M
set_option linter.unusedVariables false
set_option linter.unusedSimpArgs false
set_option linter.unnecessarySimpa false
set_option maxRecDepth 100000
namespace Go.Proofs.Ytidofnpfeibbfaa.M
open Go.Abs Go.RowKit
def inW (B : List Int) (x y : Nat) : Bool := decide (x ≤ B.length ∧ y ≤ B.length - x)
def ldV (B : List Int) (x y : Nat) : Int := if askE B.length x y = 0 then ((B.drop x).take y).foldl ldF 0 else 0
def mayF (n x y : Nat) : Bool := decide (x + 2 ≤ n) && decide (y + 2 ≤ n) && decide (x ≠ y) && decide (x % 2 = y % 2)
def wordB (B : List Int) (x : Nat) : Nat := (B.getD x 0 * 256 + B.getD (x + 1) 0).toNat
open Classical in
noncomputable def updN (f o n : Nat) : Nat := if h : f ≤ 65535 ∧ o ≤ 65535 ∧ n ≤ 65535 then Classical.choose (Update_C (M := Mem.empty) h.1 h.2.1 h.2.2) else 0
theorem updN_C {f o n : Nat} (hf : f ≤ 65535) (ho : o ≤ 65535) (hn : n ≤ 65535) : C 95 [.int .u16 (f : Int), .int .u16 (o : Int), .int .u16 (n : Int)] Mem.empty = some (.int .u16 (updN f o n : Int), Mem.empty) ∧ updN f o n ≤ 65535 := by
  have h := Classical.choose_spec (Update_C (M := Mem.empty) hf ho hn)
  unfold updN
  rw [dif_pos ⟨hf, ho, hn⟩]
  exact ⟨h.1, h.2.1⟩
def fixB (B : List Int) (x y z r : Nat) : List Int := (((B.set y (((z % 65536 : Nat) : Int) / 256)).set (y + 1) (((z % 65536 : Nat) : Int) % 256)).set x ((r : Int) / 256)).set (x + 1) ((r : Int) % 256)
def lookT (T : List Pr) (k : Int) : Int := ((T.find? (fun p => p.1 == k)).map (·.2)).getD 0
structure HSt where
  B : List Int
  cl : List (Int × List Int)
  to : Int
def movI (x : Nat) : Int := IntKind.wrap .i64 (x : Int)
def runA (scr : List (List Deed)) (σ : HSt) (k x y z : Nat) : ScS := (scr.getD k []).foldl ScS.deed ⟨(σ.B.drop x).take y, [], false, 0, (z : Int)⟩
noncomputable def helpA (tabs : List (List Pr)) (scr : List (List Deed)) (σ : HSt) (id : Int) (x y z : Nat) : Int × HSt :=
  if id = 1 then (if inW σ.B x y then ldV σ.B x y else 0, σ)
  else if id = 2 then (if inW σ.B x y ∧ askE σ.B.length x y = 0 then (1, { σ with B := storeB σ.B x y z }) else (0, σ))
  else if id = 3 then (if mayE σ.B.length (movI x) = 0 then (1, { σ with B := headB σ.B (movI x) }) else (0, σ))
  else if id = 4 then (if mayE σ.B.length (movI x) = 0 then (1, { σ with B := tailB σ.B (movI x) }) else (0, σ))
  else if id = 5 then (if mayF σ.B.length x y then (1, { σ with B := fixB σ.B x y z (updN (wordB σ.B x) (wordB σ.B y) (z % 65536)) }) else (0, σ))
  else if id = 6 then (if x < 8 ∧ σ.cl.length < 8 then (1, { σ with cl := σ.cl ++ [((x : Int), σ.B)] }) else (0, σ))
  else if id = 7 then (if x < 8 then (1, { σ with to := (x : Int) }) else (0, σ))
  else if id = 8 then (lookT (tabs.getD x []) (y : Int), σ)
  else if (id - 16).toNat < scr.length ∧ inW σ.B x y then ((runA scr σ (id - 16).toNat x y z).arg, { σ with B := σ.B.take x ++ ((runA scr σ (id - 16).toNat x y z).shown ++ σ.B.drop (x + y)) })
  else (0, σ)
noncomputable def callA (tabs : List (List Pr)) (scr : List (List Deed)) (σ : HSt) (id : Int) (x y z : Nat) : Int × Int × HSt :=
  if hpR id = false ∨ (id = 8 ∧ tabs.length ≤ x) then (0, 180, σ) else ((helpA tabs scr σ id x y z).1, 0, (helpA tabs scr σ id x y z).2)
theorem wfB.app {B B' : List Int} (h : wfB B) (h' : wfB B') : wfB (B ++ B') := fun c hc => by
  rcases List.mem_append.1 hc with h1 | h1
  · exact h c h1
  · exact h' c h1
theorem wfB.zeros (n : Nat) : wfB (List.replicate n 0) := fun c hc => by rw [List.eq_of_mem_replicate hc]; omega
theorem stB_wf (size v : Int) (i : Nat) : 0 ≤ stB size v i ∧ stB size v i < 256 := by unfold stB; rw [wu8]; omega
theorem stL_wf {size v : Int} : ∀ (d i : Nat) {S : List Int}, wfB S → wfB (stL size v d i S)
  | 0, _, _, h => h
  | d + 1, i, _, h => stL_wf d (i + 1) (h.set i (stB_wf size v i))
theorem storeB_wf {B : List Int} (h : wfB B) (at_ size v : Int) : wfB (storeB B at_ size v) := (h.take _).app ((stL_wf _ _ ((h.drop _).take _)).app (h.drop _))
theorem headB_wf {B : List Int} (h : wfB B) (n : Int) : wfB (headB B n) := by
  unfold headB; split
  · exact (wfB.zeros _).app h
  · exact h.drop _
theorem tailB_wf {B : List Int} (h : wfB B) (n : Int) : wfB (tailB B n) := by
  unfold tailB; split
  · exact h.app (wfB.zeros _)
  · exact h.take _
theorem fixB_wf {B : List Int} (h : wfB B) {x y z r : Nat} (hr : r ≤ 65535) : wfB (fixB B x y z r) := by
  unfold fixB
  exact (((h.set _ (by omega)).set _ (by omega)).set _ (by omega)).set _ (by omega)
theorem wrP_wf (at_ : Int) : ∀ (b : List Int) (k : Nat) {w : List Int}, wfB w → wfB b → wfB (wrP w at_ k b)
  | [], _, _, h, _ => h
  | c :: b, k, w, h, hb => by
    rw [wrP]
    have hc := hb c (by simp)
    have hb' : wfB b := fun c hc => hb c (by simp [hc])
    split
    · exact wrP_wf at_ b (k + 1) (h.set _ hc) hb'
    · exact wrP_wf at_ b (k + 1) h hb'
theorem ScS.wf_win {s : ScS} (h1 : wfB s.shown) (h2 : wfB s.own) : wfB s.win := by unfold ScS.win; split; exact h2; exact h1.drop _
theorem ScS.wf_step {s : ScS} (h1 : wfB s.shown) (h2 : wfB s.own) (k at_ : Int) {b : List Int} (hb : wfB b) : wfB (s.step k at_ b).shown ∧ wfB (s.step k at_ b).own := by
  have hw := ScS.wf_win h1 h2
  unfold ScS.step
  split
  · split <;> exact ⟨h1, h2⟩
  split
  · unfold ScS.put
    split
    · exact ⟨h1, wrP_wf _ _ _ hw hb⟩
    · exact ⟨(h1.take _).app (wrP_wf _ _ _ hw hb), h2⟩
  split
  · split
    · split
      · exact ⟨h1, h2.drop _⟩
      · exact ⟨h1, h2⟩
    · exact ⟨h1, h2⟩
  split
  · split
    · exact ⟨h1, hw.app hb⟩
    · exact ⟨h1, h2⟩
  · exact ⟨h1, h2⟩
theorem fold_wf : ∀ (L : List Deed) (s : ScS), (∀ d ∈ L, DeedOk d) → wfB s.shown → wfB s.own → wfB (L.foldl ScS.deed s).shown
  | [], _, _, h, _ => h
  | d :: L, s, hk, h1, h2 => by
    have h3 := ScS.wf_step h1 h2 d.1 d.2.1 (hk d (by simp)).2.2.2
    exact fold_wf L (s.deed d) (fun d hd => hk d (by simp [hd])) h3.1 h3.2
theorem helpA_wf {tabs : List (List Pr)} {scr : List (List Deed)} {σ : HSt} (h : wfB σ.B) (hS : ∀ L ∈ scr, ∀ d ∈ L, DeedOk d) (id : Int) (x y z : Nat) : wfB (helpA tabs scr σ id x y z).2.B := by
  unfold helpA
  split
  · exact h
  split
  · split
    · exact storeB_wf h _ _ _
    · exact h
  split
  · split
    · exact headB_wf h _
    · exact h
  split
  · split
    · exact tailB_wf h _
    · exact h
  split
  · split
    · refine fixB_wf h ?_
      unfold updN
      split
      · rename_i hh
        exact (Classical.choose_spec (Update_C (M := Mem.empty) hh.1 hh.2.1 hh.2.2)).2.1
      · omega
    · exact h
  split
  · split <;> exact h
  split
  · split <;> exact h
  split
  · exact h
  split
  · rename_i hk
    refine (h.take _).app (wfB.app ?_ (h.drop _))
    unfold runA
    refine fold_wf _ _ (fun d hd => ?_) ((h.drop _).take _) (fun c hc => by simp at hc)
    rw [List.getD_eq_getElem?_getD, List.getElem?_eq_getElem hk.1, Option.getD_some] at hd
    exact hS _ (List.getElem_mem hk.1) d hd
  · exact h
end Go.Proofs.Ytidofnpfeibbfaa.M
set_option linter.unusedVariables false
set_option linter.unusedSimpArgs false
set_option linter.unnecessarySimpa false
set_option maxRecDepth 100000
namespace Go.Proofs.Ytidofnpfeibbfaa.M
open Go.Abs Go.RowKit
def encC (c : Int × SlV) : List AVal := [.int .i64 c.1, .sl c.2.1 c.2.2.1 c.2.2.2]
theorem encC2 : Enc 2 encC := fun _ => rfl
def Cps (M : Mem) (vs : List (Int × SlV)) (cl : List (Int × List Int)) : Prop := vs.map (fun v => (v.1, M.bytesAt v.2)) = cl.map (fun c => (c.1, some c.2))
def Tabs (M : Mem) (tv : SlV) (tabs : List (List Pr)) : Prop := ∃ tvs : List SlV, Sl M 1 encS tv.1 tv.2.1 tv.2.2 tvs ∧ tvs.length = tabs.length ∧ ∀ (i : Nat) (v : SlV) (T : List Pr), tvs[i]? = some v → tabs[i]? = some T → Sl M 2 encP v.1 v.2.1 v.2.2 T
structure DS (M : Mem) (role : Nat → Rj) (a : Option (Nat × Nat)) (l : Nat) (c : Cap) (L : List Deed) : Prop where
  len : L.length = l
  at_ : ∀ i (h : i < L.length), ∃ (p : Nat × Nat) (v : SlV), slPtr a c = some p ∧ Sta 4 M role (fun M => M.ldI .u8 p.1 (p.2 + i * 3) = some L[i].1 ∧ M.ldI .i64 p.1 (p.2 + i * 3 + 1) = some L[i].2.1 ∧ M.ldL p.1 (p.2 + i * 3 + 1 + 1) = some v ∧ PSv M v L[i].2.2)
structure FS (M : Mem) (role : Nat → Rj) (fv : SlV) (scr : List (List Deed)) : Prop where
  len : fv.2.1 = scr.length
  at_ : ∀ k (h : k < scr.length), ∃ (p : Nat × Nat) (dv : SlV), slPtr fv.1 fv.2.2 = some p ∧ Sta 4 M role (fun M => M.ldN p.1 (p.2 + k * 1) = some (some 116, .agg [.sl dv.1 dv.2.1 dv.2.2])) ∧ DS M role dv.1 dv.2.1 dv.2.2 scr[k]
structure Hd (M0 M : Mem) (role : Nat → Rj) (hs : List Nat) (cur : List (Option Nat)) (gs : List Gp) (ds : List Dt) (hd s : Nat) (tabs : List (List Pr)) (scr : List (List Deed)) (cl : List (Int × List Int)) (to : Int) : Prop where
  I : GS false KI M0 M role hs cur gs ds
  s0 : hs[0]? = some s
  rh : role hd = .other 1
  hM : M0.n ≤ hd
  obj : ∃ (tv fv cv : SlV) (vs : List (Int × SlV)), M.get hd = some ⟨[.ptr (some (s, 0)), .sl tv.1 tv.2.1 tv.2.2, .sl fv.1 fv.2.1 fv.2.2, .sl cv.1 cv.2.1 cv.2.2, .int .i64 to], .fixed⟩ ∧ Sta 4 M role (fun M => Tabs M tv tabs) ∧ FS M role fv scr ∧ Tail M 2 encC cv.1 cv.2.1 cv.2.2 vs ∧ (∀ o ∈ fpOf cv.1, o < M.n ∧ role o = .other 2 ∧ M0.n ≤ o) ∧ Sta 3 M role (fun M => Cps M vs cl)
  okT : tabs.length ≤ 4 ∧ ∀ T ∈ tabs, chk T = 0
  okS : scr.length ≤ 8 ∧ ∀ L ∈ scr, L.length ≤ 1048576 ∧ ∀ d ∈ L, DeedOk d ∧ d.2.2.length ≤ 1048576
  okC : cl.length ≤ 8
section
variable {M0 M M' : Mem} {role role' : Nat → Rj} {hs : List Nat} {cur cur' : List (Option Nat)} {gs gs' : List Gp} {ds ds' : List Dt} {h i g N : Nat} {d : Dt} {hd s : Nat} {tabs : List (List Pr)} {scr : List (List Deed)} {cl : List (Int × List Int)} {to : Int}
theorem DS.fo {a : Option (Nat × Nat)} {l : Nat} {c : Cap} {L : List Deed} (h : DS M role a l c L) (F : Fo role role' M M') : DS M' role' a l c L := ⟨h.len, fun i hi => by
  obtain ⟨p, v, h1, h2⟩ := h.at_ i hi
  exact ⟨p, v, h1, h2.fo F (by decide) (by decide)⟩⟩
theorem FS.fo {fv : SlV} (h : FS M role fv scr) (F : Fo role role' M M') : FS M' role' fv scr := ⟨h.len, fun k hk => by
  obtain ⟨p, v, h1, h2, h3⟩ := h.at_ k hk
  exact ⟨p, v, h1, h2.fo F (by decide) (by decide), h3.fo F⟩⟩
theorem Hd.fj (H : Hd M0 M role hs cur gs ds hd s tabs scr cl to) (I' : GS false KI M0 M' role' hs cur' gs' ds') (F : Fj false role role' M M') : Hd M0 M' role' hs cur' gs' ds' hd s tabs scr cl to := by
  obtain ⟨tv, fv, cv, vs, gh, t4, f4, tl, hl, c3⟩ := H.obj
  have hlt := Mem.get_lt gh
  have keep : ∀ o, o < M.n → (∃ k, role o = .other k) → M'.get o = M.get o := fun o ho ⟨k, hk⟩ => F.get o ho (by rw [hk]; exact nofun)
  exact ⟨I', H.s0, (F.rl hd hlt).trans H.rh, H.hM, ⟨tv, fv, cv, vs, (keep hd hlt ⟨1, H.rh⟩).trans gh, t4.fj F, f4.fo F.fo, tl.same (fun o ho => keep o (hl o ho).1 ⟨2, (hl o ho).2.1⟩), fun o ho => ⟨by have := (hl o ho).1; have := F.n; omega, (F.rl o (hl o ho).1).trans (hl o ho).2.1, (hl o ho).2.2⟩, c3.fj F⟩, H.okT, H.okS, H.okC⟩
theorem Hd.upto (H : Hd M0 M role hs cur gs ds hd s tabs scr cl to) (k : Nat) (hu : M.Upto M') : Hd M0 M' (extK k role M.n) hs cur gs ds hd s tabs scr cl to := H.fj (H.I.extK k hu) (Fj.extK k role hu)
theorem GS.sz (H : GS false KI M0 M role hs cur gs ds) (hi : hs[i]? = some h) (hc : cur[i]? = some (some g)) (hd : ds[g]? = some d) : d.B.length ≤ 2048 := by
  obtain ⟨x, d', hx, hd'⟩ := H.at hc
  rw [hd] at hd'; cases hd'
  obtain ⟨_, _, hp, _⟩ := I_rd H hi hc hx hd
  exact hp.sz
theorem bytesO_at (hd : ds[g]? = some d) : bytesO ds (some g) = d.B := by show (match ds[g]? with | some d => d.B | none => []) = d.B; rw [hd]
theorem alive0_C (H : GS false KI M0 M role hs cur gs ds) (hi : hs[i]? = some h) (hc : cur[i]? = some (some g)) (hd : ds[g]? = some d) : C 40 [.ptr (some (h, 0))] M = some (.int .i64 0, M) := by
  have hE := p40_0_eq C prog.meth (some (h, 0)) M
  rcases I_load H hi hc hd 0 1 with ⟨e, q⟩ | ⟨e, q⟩
  · have : askE d.B.length 0 1 = 20 := by rcases ask01 d.B.length with h | h; exact absurd h e; exact h
    rw [this] at q
    rw [q, Option.bind_some] at hE
    simp only [int?_int, rvs, Int.reduceBEq, Int.reduceBNe, Int.cast_ofNat_Int] at hE
    exact c40 hE
  · rw [q, Option.bind_some] at hE
    simp only [int?_int, rvs, Int.reduceBEq, Int.reduceBNe, Int.cast_ofNat_Int] at hE
    exact c40 hE
theorem within0_C (H : Hd M0 M role hs cur gs ds hd s tabs scr cl to) (hc : cur[0]? = some (some g)) (hd' : ds[g]? = some d) {x n : Nat} (hx : x < 2 ^ 64) (hn : n < 2 ^ 64) : C 66 [.ptr (some (hd, 0)), .int .u64 (x : Int), .int .u64 (n : Int)] M = some (.bool (inW d.B x n), M) := by
  have hE := p66_0_eq C prog.meth (some (hd, 0)) (x : Int) (n : Int) M
  have ln := I_len H.I H.s0 hc
  rw [bytesO_at hd'] at ln
  have hB := H.I.sz H.s0 hc hd'
  obtain ⟨tv, fv, cv, vs, gh, _⟩ := H.obj
  have w1 : IntKind.wrap .u64 ((d.B.length : Nat) : Int) = ((d.B.length : Nat) : Int) := by rw [wu64]; omega
  simp only [int?_int, rvs, Int.reduceBEq, Int.reduceBNe, Int.cast_ofNat_Int, Nat.zero_add, ldP_at gh] at hE
  rw [ln, Option.bind_some] at hE
  simp only [int?_int, rvs, Int.reduceBEq, Int.reduceBNe, Int.cast_ofNat_Int, w1] at hE
  unfold inW
  by_cases h1 : x ≤ d.B.length
  · have q : ((x : Nat) : Int) ≤ ((d.B.length : Nat) : Int) := by omega
    have w2 : IntKind.wrap .u64 (((d.B.length : Nat) : Int) - (x : Int)) = ((d.B.length - x : Nat) : Int) := by rw [wu64]; omega
    simp only [q, decide_true, cond_true, w2] at hE
    have e : decide (((n : Nat) : Int) ≤ ((d.B.length - x : Nat) : Int)) = decide (x ≤ d.B.length ∧ n ≤ d.B.length - x) := by
      by_cases h2 : n ≤ d.B.length - x
      · rw [decide_eq_true (by omega), decide_eq_true ⟨h1, h2⟩]
      · rw [decide_eq_false (by omega), decide_eq_false (fun h => h2 h.2)]
    rw [e] at hE
    exact c66 hE
  · have q : ¬ (((x : Nat) : Int) ≤ ((d.B.length : Nat) : Int)) := by omega
    simp only [q, decide_false, cond_false] at hE
    rw [decide_eq_false (fun h => h1 h.1)]
    exact c66 hE
theorem doneH_C (e : Int) (M : Mem) : C 67 [.int .i64 e] M = some (.int .u64 (cond (e == 0) 1 0), M) := by
  have hE := p67_0_eq C prog.meth e M
  refine c67 (hE.trans ?_)
  cases (e == 0) <;> rfl
def Out (M0 M : Mem) (role : Nat → Rj) (hs : List Nat) (cur : List (Option Nat)) (ds : List Dt) (hd s : Nat) (tabs : List (List Pr)) (scr : List (List Deed)) (N : Nat) (σ : HSt) (M' : Mem) : Prop :=
  ∃ role' cur' gs' ds', Hd M0 M' role' hs cur' gs' ds' hd s tabs scr σ.cl σ.to ∧ Sw 0 σ.B N cur ds cur' ds' ∧ Fo role role' M M'
theorem Out.same (H : Hd M0 M role hs cur gs ds hd s tabs scr cl to) (hc : cur[0]? = some (some g)) (hd' : ds[g]? = some d) (hN : d.mv ≤ N) : Out M0 M role hs cur ds hd s tabs scr N ⟨d.B, cl, to⟩ M :=
  ⟨role, cur, gs, ds, H, Sw.refl hc hd' hN, Fo.refl _ _⟩
theorem Out.fj (H : Hd M0 M role hs cur gs ds hd s tabs scr cl to) {e : Dt} (I' : GS false KI M0 M' role' hs cur' gs' ds') (F : Fj false role role' M M') (S : Sw 0 e.B N cur ds cur' ds') : Out M0 M role hs cur ds hd s tabs scr N ⟨e.B, cl, to⟩ M' :=
  ⟨role', cur', gs', ds', H.fj I' F, S, F.fo⟩
theorem inW_iff {B : List Int} {x y : Nat} : inW B x y = true ↔ x ≤ B.length ∧ y ≤ B.length - x := by unfold inW; simp
theorem help1_C (H : Hd M0 M role hs cur gs ds hd s tabs scr cl to) (hc : cur[0]? = some (some g)) (hd' : ds[g]? = some d) {x y z : Nat} (hx : x < 2 ^ 64) (hy : y < 2 ^ 64) :
    C 47 [.ptr (some (hd, 0)), .int .i32 1, .int .u64 (x : Int), .int .u64 (y : Int), .int .u64 (z : Int)] M = some (.int .u64 (if inW d.B x y then ldV d.B x y else 0), M) := by
  have hE := p47_0_eq C prog.meth (some (hd, 0)) 1 (x : Int) (y : Int) (z : Int) M
  have hE1 := p47_1_eq C prog.meth (some (hd, 0)) (x : Int) (y : Int) M
  have hB := H.I.sz H.s0 hc hd'
  obtain ⟨tv, fv, cv, vs, gh, _⟩ := H.obj
  have z1 : ((1 : Int) == 1) = true := by decide
  rw [z1, cond_true] at hE
  rw [within0_C H hc hd' hx hy, Option.bind_some] at hE1
  simp only [int?_int, rvs, Int.reduceBEq, Int.reduceBNe, Int.cast_ofNat_Int] at hE1
  cases hin : inW d.B x y with
  | false =>
    simp only [hin, Bool.not_false, cond_true] at hE1
    exact c47 (hE.trans hE1)
  | true =>
    obtain ⟨i1, i2⟩ := inW_iff.1 hin
    have wx : IntKind.wrap .i64 (x : Int) = (x : Int) := wrap_i64 (by omega) (by omega)
    have wy : IntKind.wrap .i64 (y : Int) = (y : Int) := wrap_i64 (by omega) (by omega)
    simp only [hin, Bool.not_true, cond_false, Option.bind_some, Nat.zero_add, ldP_at gh, List.getElem?_cons_zero, AVal.ptr?, wx, wy] at hE1
    rw [if_pos rfl]
    unfold ldV
    rcases I_load H.I H.s0 hc hd' (x : Int) (y : Int) with ⟨e, q⟩ | ⟨e, q⟩
    · rw [q, Option.bind_some] at hE1
      have e' : (askE d.B.length (x : Int) (y : Int) != 0) = true := by simp [e]
      simp only [int?_int, rvs, Int.reduceBEq, Int.reduceBNe, Int.cast_ofNat_Int, e'] at hE1
      rw [if_neg e]
      exact c47 (hE.trans hE1)
    · rw [q, Option.bind_some] at hE1
      simp only [int?_int, rvs, Int.reduceBEq, Int.reduceBNe, Int.cast_ofNat_Int, Int.toNat_natCast] at hE1
      rw [if_pos e]
      exact c47 (hE.trans hE1)
theorem help2_C (H : Hd M0 M role hs cur gs ds hd s tabs scr cl to) (hc : cur[0]? = some (some g)) (hd' : ds[g]? = some d) (hN : d.mv ≤ N) {x y z : Nat} (hx : x < 2 ^ 64) (hy : y < 2 ^ 64) :
    ∃ M', C 47 [.ptr (some (hd, 0)), .int .i32 2, .int .u64 (x : Int), .int .u64 (y : Int), .int .u64 (z : Int)] M = some (.int .u64 (if inW d.B x y ∧ askE d.B.length x y = 0 then 1 else 0), M') ∧
      Out M0 M role hs cur ds hd s tabs scr N (if inW d.B x y ∧ askE d.B.length x y = 0 then ⟨storeB d.B x y z, cl, to⟩ else ⟨d.B, cl, to⟩) M' := by
  have hE := p47_0_eq C prog.meth (some (hd, 0)) 2 (x : Int) (y : Int) (z : Int) M
  have hB := H.I.sz H.s0 hc hd'
  obtain ⟨tv, fv, cv, vs, gh, _⟩ := H.obj
  have z1 : ((2 : Int) == 1) = false := by decide
  have z2 : ((2 : Int) == 2) = true := by decide
  rw [z1, cond_false, z2, cond_true] at hE
  rw [within0_C H hc hd' hx hy, Option.bind_some] at hE
  simp only [int?_int, rvs, Int.reduceBEq, Int.reduceBNe, Int.cast_ofNat_Int] at hE
  cases hin : inW d.B x y with
  | false =>
    simp only [hin, Bool.not_false, cond_true] at hE
    refine ⟨M, c47 hE, ?_⟩
    rw [if_neg (by simp)]
    exact Out.same H hc hd' hN
  | true =>
    obtain ⟨i1, i2⟩ := inW_iff.1 hin
    have wx : IntKind.wrap .i64 (x : Int) = (x : Int) := wrap_i64 (by omega) (by omega)
    have wy : IntKind.wrap .i64 (y : Int) = (y : Int) := wrap_i64 (by omega) (by omega)
    simp only [hin, Bool.not_true, cond_false, Option.bind_some, Nat.zero_add, ldP_at gh, List.getElem?_cons_zero, AVal.ptr?, wx, wy] at hE
    rcases I_store H.I H.s0 hc hd' (x : Int) (y : Int) (z : Int) with ⟨e, q⟩ | ⟨e, M1, role1, gs1, q, I1, F1⟩
    · rw [q, Option.bind_some] at hE
      have e' : (askE d.B.length (x : Int) (y : Int) == 0) = false := by simp [e]
      simp only [int?_int, rvs, Int.reduceBEq, Int.reduceBNe, Int.cast_ofNat_Int, doneH_C, e'] at hE
      refine ⟨M, ?_, ?_⟩
      · rw [if_neg (fun h => e h.2)]; exact c47 hE
      · rw [if_neg (fun h => e h.2)]; exact Out.same H hc hd' hN
    · rw [q, Option.bind_some] at hE
      simp only [int?_int, rvs, Int.reduceBEq, Int.reduceBNe, Int.cast_ofNat_Int, doneH_C] at hE
      refine ⟨M1, ?_, ?_⟩
      · rw [if_pos ⟨rfl, e⟩]; exact c47 hE
      · rw [if_pos ⟨rfl, e⟩]
        refine Out.fj H (e := ⟨storeB d.B x y z, (oE cur g d).a, (oE cur g d).t, (oE cur g d).mv⟩) I1 F1 (H.I.sw hc hd' _ ?_)
        show (oE cur g d).mv ≤ N
        unfold oE; split
        · exact Nat.zero_le _
        · exact hN
end
end Go.Proofs.Ytidofnpfeibbfaa.M
set_option linter.unusedVariables false
set_option linter.unusedSimpArgs false
set_option linter.unnecessarySimpa false
set_option maxRecDepth 100000
namespace Go.Proofs.Ytidofnpfeibbfaa.M
open Go.Abs Go.RowKit
theorem xor_odd (x y : Nat) (hx : x < 2 ^ 64) (hy : y < 2 ^ 64) : (IntKind.wrap .u64 ((BitVec.ofInt (IntKind.bits .u64) (IntKind.wrap .u64 ((BitVec.ofInt (IntKind.bits .u64) (x : Int) ^^^ BitVec.ofInt (IntKind.bits .u64) (y : Int)).toNat : Nat)) &&& BitVec.ofInt (IntKind.bits .u64) 1).toNat : Nat) != 0) = !decide (x % 2 = y % 2) := by
  have h1 := xor_nat x y hx hy
  have h2 : x ^^^ y < 2 ^ 64 := Nat.xor_lt_two_pow hx hy
  have h3 : IntKind.wrap .u64 (((x ^^^ y : Nat)) : Int) = ((x ^^^ y : Nat) : Int) := by rw [wu64]; omega
  have h4 := and_nat (x ^^^ y) 1 h2 (by omega)
  rw [h1, h3, show (1 : Int) = ((1 : Nat) : Int) from rfl, h4, Nat.and_one_is_mod]
  have h5 : IntKind.wrap .u64 ((((x ^^^ y) % 2 : Nat)) : Int) = (((x ^^^ y) % 2 : Nat) : Int) := by rw [wu64]; omega
  rw [h5]
  have hb := Nat.testBit_xor x y 0
  rw [Nat.testBit_zero, Nat.testBit_zero, Nat.testBit_zero] at hb
  have a1 : (x ^^^ y) % 2 = 0 ∨ (x ^^^ y) % 2 = 1 := by omega
  have a2 : x % 2 = 0 ∨ x % 2 = 1 := by omega
  have a3 : y % 2 = 0 ∨ y % 2 = 1 := by omega
  rcases a1 with a1 | a1 <;> rcases a2 with a2 | a2 <;> rcases a3 with a3 | a3 <;> rw [a1, a2, a3] at hb <;> first | (exact absurd hb (by decide)) | (rw [a1, a2, a3]; rfl)
section
variable {M0 M M' : Mem} {role role' : Nat → Rj} {hs : List Nat} {cur cur' : List (Option Nat)} {gs gs' : List Gp} {ds ds' : List Dt} {h i g N : Nat} {d : Dt} {hd s : Nat} {tabs : List (List Pr)} {scr : List (List Deed)} {cl : List (Int × List Int)} {to : Int}
theorem oE_mv (hN : d.mv ≤ N) : (oE cur g d).mv ≤ N := by
  unfold oE; split
  · exact Nat.zero_le _
  · exact hN
theorem move_C (H : Hd M0 M role hs cur gs ds hd s tabs scr cl to) (hc : cur[0]? = some (some g)) (hd' : ds[g]? = some d) (hN : d.mv ≤ N) (hN2 : N < 2 ^ 62) (n : Int) (ah : Bool) :
    ∃ M', C 69 [.ptr (some (hd, 0)), .int .i64 n, .bool ah] M = some (.int .u64 (if mayE d.B.length n = 0 then 1 else 0), M') ∧
      Out M0 M role hs cur ds hd s tabs scr (N + 1) (if mayE d.B.length n = 0 then ⟨if ah then headB d.B n else tailB d.B n, cl, to⟩ else ⟨d.B, cl, to⟩) M' := by
  have hE := p69_0_eq C prog.meth (some (hd, 0)) n ah M
  have hE1 := p69_1_eq C prog.meth (some (hd, 0)) n ah M
  have ln := I_len H.I H.s0 hc
  rw [bytesO_at hd'] at ln
  have hB := H.I.sz H.s0 hc hd'
  obtain ⟨tv, fv, cv, vs, gh, _⟩ := H.obj
  have w1 : IntKind.wrap .i64 (0 - (d.B.length : Int)) = -(d.B.length : Int) := by rw [wrap_i64 (by omega) (by omega)]; omega
  have w2 : IntKind.wrap .i64 (2048 - (d.B.length : Int)) = 2048 - (d.B.length : Int) := wrap_i64 (by omega) (by omega)
  simp only [int?_int, rvs, Int.reduceBEq, Int.reduceBNe, Int.cast_ofNat_Int, Nat.zero_add, ldP_at gh, ln, w1, w2] at hE
  by_cases c1 : n < -(d.B.length : Int)
  · simp only [c1, decide_true, cond_true] at hE
    have e : mayE d.B.length n ≠ 0 := by unfold mayE; rw [if_neg (by omega), if_pos c1]; decide
    rw [if_neg e, if_neg e]
    exact ⟨M, c69 hE, Out.same H hc hd' (by omega)⟩
  by_cases c2 : n > 2048 - (d.B.length : Int)
  · simp only [c1, c2, decide_true, decide_false, cond_true, cond_false] at hE
    have e : mayE d.B.length n ≠ 0 := by unfold mayE; rw [if_pos c2]; decide
    rw [if_neg e, if_neg e]
    exact ⟨M, c69 hE, Out.same H hc hd' (by omega)⟩
  have e : mayE d.B.length n = 0 := by unfold mayE; rw [if_neg c2, if_neg c1]
  rw [if_pos e, if_pos e]
  simp only [c1, c2, decide_false, cond_false] at hE
  obtain ⟨M1, role1, gs1, x1, k1, I1, F1, hx1⟩ := I_own H.I H.s0 hc hd'
  have hd1 := o_dat (cur := cur) hd'
  obtain ⟨o1, ho1, hp1, _⟩ := I_rd I1 H.s0 (o_cur hc) hx1 hd1
  have hBE := oE_B cur g d
  have hmv := oE_mv (cur := cur) (g := g) hN
  simp only [int?_int, rvs, Int.reduceBEq, Int.reduceBNe, Int.cast_ofNat_Int, Nat.zero_add, ldP_at gh] at hE1
  rw [k1, Option.bind_some] at hE1
  simp only [int?_int, rvs, Int.reduceBEq, Int.reduceBNe, Int.cast_ofNat_Int] at hE1
  cases ah with
  | true =>
    rcases PHead_C hp1 n (by omega) with ⟨e', _⟩ | ⟨_, M2, o', k2, q, n2, b2, f2⟩
    · rw [hBE] at e'; exact absurd e e'
    · rw [hBE] at q
      obtain ⟨role2, I2, F2⟩ := I1.write hx1 hd1 (fp' := [o']) (e := ⟨headB d.B n, (if n > (oE cur g d).a then 64 else ((oE cur g d).a - n).toNat), (if n > (oE cur g d).a then 64 else (oE cur g d).t), (oE cur g d).mv + 1⟩) (b2.mono (fun y hy => by rw [ho1]; simpa using hy)) (fun y hy => by
        simp only [List.mem_singleton] at hy
        subst hy
        rw [ho1]
        rcases f2 with h | h
        · exact .inl (by simp [h])
        · exact .inr h) ⟨o', rfl, q⟩
      simp only [cond_true] at hE1
      rw [k2, Option.bind_some] at hE1
      simp only [int?_int, rvs, Int.reduceBEq, Int.reduceBNe, Int.cast_ofNat_Int, doneH_C] at hE1
      exact ⟨M2, c69 (hE.trans hE1), Out.fj H (e := ⟨headB d.B n, _, _, _⟩) I2 (F1.trans F2) (H.I.sw hc hd' _ (by show (oE cur g d).mv + 1 ≤ N + 1; omega))⟩
  | false =>
    rcases PTail_C hp1 n (by omega) with ⟨e', _⟩ | ⟨_, M2, o', k2, q, n2, b2, f2⟩
    · rw [hBE] at e'; exact absurd e e'
    · rw [hBE] at q
      obtain ⟨role2, I2, F2⟩ := I1.write hx1 hd1 (fp' := [o']) (e := ⟨tailB d.B n, (if n > (oE cur g d).t then 64 else (oE cur g d).a), (if n > (oE cur g d).t then 64 else ((oE cur g d).t - n).toNat), (oE cur g d).mv + 1⟩) (b2.mono (fun y hy => by rw [ho1]; simpa using hy)) (fun y hy => by
        simp only [List.mem_singleton] at hy
        subst hy
        rw [ho1]
        rcases f2 with h | h
        · exact .inl (by simp [h])
        · exact .inr h) ⟨o', rfl, q⟩
      simp only [cond_false] at hE1
      rw [k2, Option.bind_some] at hE1
      simp only [int?_int, rvs, Int.reduceBEq, Int.reduceBNe, Int.cast_ofNat_Int, doneH_C] at hE1
      exact ⟨M2, c69 (hE.trans hE1), Out.fj H (e := ⟨tailB d.B n, _, _, _⟩) I2 (F1.trans F2) (H.I.sw hc hd' _ (by show (oE cur g d).mv + 1 ≤ N + 1; omega))⟩
theorem ask2 {len k : Nat} (h : k + 2 ≤ len) : askE len (k : Int) 2 = 0 := by
  unfold askE
  rw [if_neg (by omega), if_neg (by omega), if_neg (by omega), if_neg (by omega)]
theorem wordB_eq {B : List Int} (hw : wfB B) {k : Nat} (hk : k + 2 ≤ B.length) : ((wordB B k : Nat) : Int) = B[k]'(by omega) * 256 + B[k + 1]'(by omega) ∧ wordB B k ≤ 65535 := by
  have h0 := hw _ (List.getElem_mem (show k < B.length by omega))
  have h1 := hw _ (List.getElem_mem (show k + 1 < B.length by omega))
  have e0 : B.getD k 0 = B[k]'(by omega) := by rw [List.getD_eq_getElem?_getD, List.getElem?_eq_getElem (by omega), Option.getD_some]
  have e1 : B.getD (k + 1) 0 = B[k + 1]'(by omega) := by rw [List.getD_eq_getElem?_getD, List.getElem?_eq_getElem (by omega), Option.getD_some]
  unfold wordB
  rw [e0, e1]
  omega
theorem load16_C (I : GS false KI M0 M role hs cur gs ds) (hi : hs[i]? = some h) (hc : cur[i]? = some (some g)) (hd' : ds[g]? = some d) (hw : wfB d.B) {k : Nat} (hk : k + 2 ≤ d.B.length) : C 64 [.ptr (some (h, 0)), .int .i64 (k : Int), .int .i64 2] M = some (.tup [.int .u64 (wordB d.B k : Int), .int .i64 0], M) := by
  rcases I_load I hi hc hd' (k : Int) 2 with ⟨e, q⟩ | ⟨e, q⟩
  · exact absurd (ask2 hk) e
  · rw [load2 hw hk] at q
    rw [(wordB_eq hw hk).1]; exact q
theorem store16_C (I : GS false KI M0 M role hs cur gs ds) (hi : hs[i]? = some h) (hc : cur[i]? = some (some g)) (hd' : ds[g]? = some d) (hN : d.mv ≤ N) {k : Nat} (hk : k + 2 ≤ d.B.length) {V : Int} (hV : 0 ≤ V ∧ V < 65536) :
    ∃ M' role' gs' cur' ds' g' d', C 68 [.ptr (some (h, 0)), .int .i64 (k : Int), .int .i64 2, .int .u64 V] M = some (.int .i64 0, M') ∧ GS false KI M0 M' role' hs cur' gs' ds' ∧ Fj false role role' M M' ∧ Sw i ((d.B.set k (V / 256)).set (k + 1) (V % 256)) N cur ds cur' ds' ∧ cur'[i]? = some (some g') ∧ ds'[g']? = some d' ∧ d'.B = (d.B.set k (V / 256)).set (k + 1) (V % 256) ∧ d'.mv ≤ N := by
  rcases I_store I hi hc hd' (k : Int) 2 V with ⟨e, q⟩ | ⟨e, M1, role1, gs1, q, I1, F1⟩
  · exact absurd (ask2 hk) e
  · have hs2 := store2 (B := d.B) hk hV
    have hdat := o_dat (cur := cur) hd'
    have hlt : oG cur ds.length g < (oD cur ds g d).length := (List.getElem?_eq_some_iff.1 hdat).1
    refine ⟨M1, role1, gs1, _, _, oG cur ds.length g, ⟨storeB d.B (k : Int) 2 V, (oE cur g d).a, (oE cur g d).t, (oE cur g d).mv⟩, q, I1, F1, ?_, o_cur hc, ?_, hs2, oE_mv hN⟩
    · have := I.sw hc hd' ⟨storeB d.B (k : Int) 2 V, (oE cur g d).a, (oE cur g d).t, (oE cur g d).mv⟩ (N := N) (oE_mv hN)
      simp only at this
      rw [hs2] at this
      rw [hs2]; exact this
    · rw [List.getElem?_set, if_pos rfl, if_pos hlt]
theorem fixH_C (H : Hd M0 M role hs cur gs ds hd s tabs scr cl to) (hc : cur[0]? = some (some g)) (hd' : ds[g]? = some d) (hN : d.mv ≤ N) (hw : wfB d.B) {x y z : Nat} (hx : x < 2 ^ 64) (hy : y < 2 ^ 64) :
    ∃ M', C 70 [.ptr (some (hd, 0)), .int .u64 (x : Int), .int .u64 (y : Int), .int .u16 ((z % 65536 : Nat) : Int)] M = some (.int .u64 (if mayF d.B.length x y then 1 else 0), M') ∧
      Out M0 M role hs cur ds hd s tabs scr N (if mayF d.B.length x y then ⟨fixB d.B x y z (updN (wordB d.B x) (wordB d.B y) (z % 65536)), cl, to⟩ else ⟨d.B, cl, to⟩) M' := by
  have hE := p70_0_eq C prog.meth (some (hd, 0)) (x : Int) (y : Int) ((z % 65536 : Nat) : Int) M
  have hB := H.I.sz H.s0 hc hd'
  obtain ⟨tv, fv, cv, vs, gh, _⟩ := H.obj
  have w1 := within0_C H hc hd' hx (n := 2) (by omega)
  have w2 := within0_C H hc hd' hy (n := 2) (by omega)
  rw [show (((2 : Nat)) : Int) = 2 from rfl] at w1 w2
  have no : mayF d.B.length x y = false → p70_0 C prog.meth (some (hd, 0)) (x : Int) (y : Int) ((z % 65536 : Nat) : Int) M = some (.int .u64 0, M) → ∃ M', C 70 [.ptr (some (hd, 0)), .int .u64 (x : Int), .int .u64 (y : Int), .int .u16 ((z % 65536 : Nat) : Int)] M = some (.int .u64 (if mayF d.B.length x y then 1 else 0), M') ∧
      Out M0 M role hs cur ds hd s tabs scr N (if mayF d.B.length x y then ⟨fixB d.B x y z (updN (wordB d.B x) (wordB d.B y) (z % 65536)), cl, to⟩ else ⟨d.B, cl, to⟩) M' := fun hm hq => by
    rw [hm]
    exact ⟨M, c70 hq, Out.same H hc hd' hN⟩
  rw [w1, Option.bind_some] at hE
  simp only [AVal.bool?, Option.bind_some] at hE
  rw [xor_odd x y hx hy] at hE
  by_cases c1 : inW d.B x 2 = true
  rotate_left
  · have c1' : inW d.B x 2 = false := by simpa using c1
    simp only [c1', Bool.not_false, cond_true] at hE
    refine no ?_ hE
    unfold mayF
    rw [decide_eq_false (show ¬ x + 2 ≤ d.B.length from fun h => c1 (inW_iff.2 ⟨by omega, by omega⟩))]; rfl
  obtain ⟨i1, i2⟩ := inW_iff.1 c1
  simp only [c1, Bool.not_true, cond_false] at hE
  rw [w2, Option.bind_some] at hE
  simp only [AVal.bool?, Option.bind_some] at hE
  by_cases c2 : inW d.B y 2 = true
  rotate_left
  · have c2' : inW d.B y 2 = false := by simpa using c2
    simp only [c2', Bool.not_false, cond_true] at hE
    refine no ?_ hE
    unfold mayF
    rw [decide_eq_false (show ¬ y + 2 ≤ d.B.length from fun h => c2 (inW_iff.2 ⟨by omega, by omega⟩))]; simp
  obtain ⟨i3, i4⟩ := inW_iff.1 c2
  simp only [c2, Bool.not_true, cond_false] at hE
  by_cases c3 : x = y
  · subst c3
    simp only [beq_self_eq_true, cond_true] at hE
    exact no (by unfold mayF; simp) hE
  have e3 : ((x : Int) == (y : Int)) = false := by simp; omega
  rw [e3, cond_false] at hE
  by_cases c4 : x % 2 = y % 2
  rotate_left
  · rw [decide_eq_false c4] at hE
    simp only [Bool.not_false, cond_true] at hE
    exact no (by unfold mayF; rw [decide_eq_false c4]; simp) hE
  rw [decide_eq_true c4] at hE
  simp only [Bool.not_true, cond_false] at hE
  have hm : mayF d.B.length x y = true := by unfold mayF; rw [decide_eq_true c4, decide_eq_true c3, decide_eq_true (show x + 2 ≤ d.B.length by omega), decide_eq_true (show y + 2 ≤ d.B.length by omega)]; rfl
  rw [if_pos hm, if_pos hm]
  have hx2 : x + 2 ≤ d.B.length := by omega
  have hy2 : y + 2 ≤ d.B.length := by omega
  have wx : IntKind.wrap .i64 (x : Int) = (x : Int) := wrap_i64 (by omega) (by omega)
  have wy : IntKind.wrap .i64 (y : Int) = (y : Int) := wrap_i64 (by omega) (by omega)
  have hE1 := p70_1_eq C prog.meth (some (hd, 0)) (x : Int) (y : Int) ((z % 65536 : Nat) : Int) M
  simp only [int?_int, rvs, Int.reduceBEq, Int.reduceBNe, Int.cast_ofNat_Int, Nat.zero_add, ldP_at gh, wx, wy, load16_C H.I H.s0 hc hd' hw hx2, load16_C H.I H.s0 hc hd' hw hy2, bne_self_eq_false] at hE1
  obtain ⟨_, bX⟩ := wordB_eq hw hx2
  obtain ⟨_, bY⟩ := wordB_eq hw hy2
  have hE2 := p70_2_eq C prog.meth (some (hd, 0)) (x : Int) (y : Int) ((z % 65536 : Nat) : Int) (wordB d.B x : Int) (wordB d.B y : Int) M
  have hz : z % 65536 < 65536 := Nat.mod_lt _ (by omega)
  have wn : IntKind.wrap .u64 (((z % 65536 : Nat)) : Int) = ((z % 65536 : Nat) : Int) := by rw [wu64]; omega
  have wX : IntKind.wrap .u16 (wordB d.B x : Int) = (wordB d.B x : Int) := by rw [wu16]; omega
  have wY : IntKind.wrap .u16 (wordB d.B y : Int) = (wordB d.B y : Int) := by rw [wu16]; omega
  obtain ⟨M1, role1, gs1, cur1, ds1, g1, d1, s1, I1, F1, S1, hc1, hd1, hB1, hN1⟩ := store16_C H.I H.s0 hc hd' hN hy2 (V := ((z % 65536 : Nat) : Int)) (by omega)
  obtain ⟨r1, r2⟩ := updN_C (n := z % 65536) bX bY (by omega)
  have wr : IntKind.wrap .u64 (updN (wordB d.B x) (wordB d.B y) (z % 65536) : Int) = (updN (wordB d.B x) (wordB d.B y) (z % 65536) : Int) := by rw [wu64]; omega
  obtain ⟨M2, role2, gs2, cur2, ds2, g2, d2, s2, I2, F2, S2, hc2, hd2, hB2, hN2⟩ := store16_C I1 H.s0 hc1 hd1 hN1 (k := x) (by rw [hB1]; simp; omega) (V := (updN (wordB d.B x) (wordB d.B y) (z % 65536) : Int)) (by omega)
  have H1 := H.fj I1 F1
  obtain ⟨_, _, _, _, gh1, _⟩ := H1.obj
  have dn := doneH_C 0 Mem.empty
  simp only [int?_int, rvs, Int.reduceBEq, Int.reduceBNe, Int.cast_ofNat_Int, Nat.zero_add, ldP_at gh, wy, wn, s1, bne_self_eq_false, ldP_at gh1, wX, wY, r1, wx, wr, s2, dn] at hE2
  rw [hB1] at S2 hB2
  refine ⟨M2, c70 (hE.trans (hE1.trans hE2)), role2, cur2, gs2, ds2, H1.fj I2 F2, S1.trans S2, (F1.trans F2).fo⟩
theorem way_C (H : Hd M0 M role hs cur gs ds hd s tabs scr cl to) (hc : cur[0]? = some (some g)) (hd' : ds[g]? = some d) (hN : d.mv ≤ N) (to' : Int) :
    ∃ M', M.st hd 4 [.int .i64 to'] = some M' ∧ Out M0 M role hs cur ds hd s tabs scr N ⟨d.B, cl, to'⟩ M' := by
  obtain ⟨tv, fv, cv, vs, gh, t4, f4, tl, hl, c3⟩ := H.obj
  obtain ⟨M1, s1, g1, n1, b1⟩ := st_at (i := 4) (vs := [.int .i64 to']) gh (by simp)
  simp only [overL_one, List.set_cons_succ, List.set_cons_zero] at g1
  have ne : ∀ o, (∃ k, role o = .other k ∧ k ≠ 1) → o ≠ hd := fun o ⟨k, hk, hk1⟩ e => by
    rw [e, H.rh] at hk
    cases hk; exact hk1 rfl
  have F : Fo role role M M1 := ⟨by omega, fun o ho ⟨k, hk, h1, _⟩ => b1.2 o ho (ne o ⟨k, hk, h1⟩), fun _ _ => rfl⟩
  have I1 : GS false KI M0 M1 role hs cur gs ds := H.I.oth (S := fun o => o = hd) b1 (fun y hy _ => by
    subst hy
    exact ⟨H.hM, by rw [H.rh]; exact nofun⟩) (fun _ _ => rfl)
  refine ⟨M1, s1, role, cur, gs, ds, ⟨I1, H.s0, H.rh, H.hM, ⟨tv, fv, cv, vs, g1, t4.fo F (by decide) (by decide), f4.fo F, tl.same (fun o ho => b1.2 o (hl o ho).1 (ne o ⟨2, (hl o ho).2.1, by decide⟩)), fun o ho => ⟨by rw [n1]; exact (hl o ho).1, (hl o ho).2⟩, c3.fo F (by decide) (by decide)⟩, H.okT, H.okS, H.okC⟩, Sw.refl hc hd' hN, F⟩
end
end Go.Proofs.Ytidofnpfeibbfaa.M
