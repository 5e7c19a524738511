/- Load and Store: both ways come to the same. -/
import Derived.Test.YtfdlmneofbcpnaaKP
set_option linter.unusedVariables false
set_option linter.unusedSimpArgs false
set_option linter.unnecessarySimpa false
namespace Go.Proofs.Ytfdlmneofbcpnaa.M
open Go.Abs

theorem wrap_u64_mod (n : Int) : IntKind.wrap .u64 n = n % 18446744073709551616 := by
  unfold IntKind.wrap
  simp [IntKind.bits, IntKind.signed]
theorem wrap_u8_mod (n : Int) : IntKind.wrap .u8 n = n % 256 := by
  unfold IntKind.wrap
  simp [IntKind.bits, IntKind.signed]
/-- A number that ends in eight zeros, and a byte: or is sum. -/
theorem or_byte (x c : Nat) (hc : c < 256) : (x * 256) ||| c = x * 256 + c := by
  have := Nat.two_pow_add_eq_or_of_lt (i := 8) (b := c) (by omega) x
  rw [Nat.mul_comm (2 ^ 8) x] at this
  exact this.symm
theorem ldF_ldR {v c : Int} (h0 : 0 ≤ v) (hc : 0 ≤ c ∧ c < 256) : ldF v c = ldR v c := by
  obtain ⟨v, rfl⟩ : ∃ n : Nat, v = (n : Int) := ⟨v.toNat, by omega⟩
  obtain ⟨c, rfl⟩ : ∃ n : Nat, c = (n : Int) := ⟨c.toNat, by omega⟩
  have hc' : c < 256 := by omega
  have e1 : (2 : Int) ^ Nat.min 8 (IntKind.bits .u64) = 256 := rfl
  obtain ⟨x, hx⟩ : ∃ x : Nat, ((v : Int) * 256) % 18446744073709551616 = ((x * 256 : Nat) : Int) := ⟨(v * 256 % 18446744073709551616) / 256, by omega⟩
  have hxl : x * 256 < 18446744073709551616 := by omega
  unfold ldF ldR
  rw [e1, wrap_u64_mod ((v : Int) * 256), hx, wrap_u64_mod (c : Int), show ((c : Int) % 18446744073709551616) = (c : Int) by omega]
  have e2 : (BitVec.ofInt (IntKind.bits .u64) ((x * 256 : Nat) : Int) ||| BitVec.ofInt (IntKind.bits .u64) (c : Int)).toNat = x * 256 + c := by
    rw [BitVec.toNat_or, BitVec.toNat_ofInt, BitVec.toNat_ofInt]
    have a1 : (((x * 256 : Nat) : Int) % ((2 ^ IntKind.bits .u64 : Nat) : Int)).toNat = x * 256 := by
      have : ((2 ^ IntKind.bits .u64 : Nat) : Int) = 18446744073709551616 := rfl
      rw [this]; omega
    have a2 : ((c : Int) % ((2 ^ IntKind.bits .u64 : Nat) : Int)).toNat = c := by
      have : ((2 ^ IntKind.bits .u64 : Nat) : Int) = 18446744073709551616 := rfl
      rw [this]; omega
    rw [a1, a2, or_byte x c hc']
  rw [e2]
  congr 1
theorem ldR_pos (v c : Int) : 0 ≤ ldR v c := by
  unfold ldR
  rw [wrap_u64_mod]; omega
theorem fold_same : ∀ (B : List Int) (v : Int), 0 ≤ v → (∀ c ∈ B, 0 ≤ c ∧ c < 256) → B.foldl ldF v = B.foldl ldR v
  | [], _, _, _ => rfl
  | c :: B, v, hv, hB => by
    rw [List.foldl_cons, List.foldl_cons, ldF_ldR hv (hB c (by simp))]
    exact fold_same B _ (ldR_pos v c) (fun x hx => hB x (by simp [hx]))
def wfB (B : List Int) : Prop := ∀ c ∈ B, 0 ≤ c ∧ c < 256
theorem wfB.set {B : List Int} (h : wfB B) (i : Nat) {y : Int} (hy : 0 ≤ y ∧ y < 256) : wfB (B.set i y) := fun c hc => by
  rcases List.mem_or_eq_of_mem_set hc with h1 | h1
  · exact h c h1
  · exact h1 ▸ hy
theorem wfB.head {B : List Int} (h : wfB B) (n : Int) : wfB (headB B n) := fun c hc => by
  unfold headB at hc
  split at hc
  · rcases List.mem_append.1 hc with h1 | h1
    · have := List.eq_of_mem_replicate h1; omega
    · exact h c h1
  · exact h c (List.mem_of_mem_drop hc)
theorem wfB.tail {B : List Int} (h : wfB B) (n : Int) : wfB (tailB B n) := fun c hc => by
  unfold tailB at hc
  split at hc
  · rcases List.mem_append.1 hc with h1 | h1
    · exact h c h1
    · have := List.eq_of_mem_replicate h1; omega
  · exact h c (List.mem_of_mem_take hc)
theorem wrap_u8_lt (x : Int) : 0 ≤ IntKind.wrap .u8 x ∧ IntKind.wrap .u8 x < 256 := by rw [wrap_u8_mod]; omega
theorem wfB.stR (k : Nat) : ∀ (d : Nat) (V : Int) {B : List Int}, wfB B → wfB (stR k d V B)
  | 0, _, _, h => h
  | d + 1, V, B, h => wfB.stR k d _ (h.set _ (wrap_u8_lt _))
theorem wfB.take {B : List Int} (h : wfB B) (n : Nat) : wfB (B.take n) := fun c hc => h c (List.mem_of_mem_take hc)
theorem wfB.drop {B : List Int} (h : wfB B) (n : Nat) : wfB (B.drop n) := fun c hc => h c (List.mem_of_mem_drop hc)
/-- A number's bytes. -/
def byteAt (V : Int) (j : Nat) : Int := V / 256 ^ j % 256
theorem stR_get (k : Nat) : ∀ (d : Nat) (V : Int) (B : List Int), 0 ≤ V → V < 18446744073709551616 → k + d ≤ B.length → ∀ j, (stR k d V B)[j]? = if k ≤ j ∧ j < k + d then some (byteAt V (k + d - 1 - j)) else B[j]?
  | 0, V, B, _, _, _, j => by rw [stR, if_neg (by omega)]
  | d + 1, V, B, h0, h1, hk, j => by
    have e1 : IntKind.wrap .u64 (Int.tdiv V 256) = V / 256 := by rw [Int.tdiv_eq_ediv_of_nonneg h0, wrap_u64_mod]; omega
    have e2 : IntKind.wrap .u8 (Int.tmod V 256) = V % 256 := by rw [Int.tmod_eq_emod_of_nonneg h0, wrap_u8_mod]; omega
    rw [stR, e1, e2, stR_get k d _ _ (by omega) (by omega) (by simp; omega) j]
    by_cases hj : k ≤ j ∧ j < k + d
    · rw [if_pos hj, if_pos (by omega)]
      unfold byteAt
      have : k + (d + 1) - 1 - j = (k + d - 1 - j) + 1 := by omega
      rw [this, Int.pow_succ, Int.mul_comm, ← Int.ediv_ediv_of_nonneg (by omega)]
    · rw [if_neg hj, List.getElem?_set]
      by_cases e : k + d = j
      · rw [if_pos e, if_pos (by omega), if_pos (by omega)]
        unfold byteAt
        have : k + (d + 1) - 1 - j = 0 := by omega
        rw [this]; simp
      · rw [if_neg e, if_neg (by omega)]
theorem stL_get (n v : Int) : ∀ (d i : Nat) (S : List Int), i + d ≤ S.length → ∀ j, (stL n v d i S)[j]? = if i ≤ j ∧ j < i + d then some (stB n v j) else S[j]?
  | 0, i, S, _, j => by rw [stL, if_neg (by omega)]
  | d + 1, i, S, hi, j => by
    rw [stL, stL_get n v d (i + 1) _ (by simp; omega) j]
    by_cases hj : i + 1 ≤ j ∧ j < i + 1 + d
    · rw [if_pos hj, if_pos (by omega)]
    · rw [if_neg hj, List.getElem?_set]
      by_cases e : i = j
      · subst e; rw [if_pos rfl, if_pos (by omega), if_pos (by omega)]
      · rw [if_neg e, if_neg (by omega)]
theorem stB_byte {n : Nat} {V : Int} {j : Nat} (h0 : 0 ≤ V) (hn : n ≤ 8) (hj : j < n) : stB n V j = byteAt V (n - 1 - j) := by
  unfold stB byteAt
  have w1 : IntKind.wrap .i64 ((n : Int) - 1) = (n : Int) - 1 := wrap_i64 (by omega) (by omega)
  have w2 : IntKind.wrap .i64 ((n : Int) - 1 - (j : Int)) = (n : Int) - 1 - (j : Int) := wrap_i64 (by omega) (by omega)
  have w3 : IntKind.wrap .i64 (8 * ((n : Int) - 1 - (j : Int))) = 8 * ((n : Int) - 1 - (j : Int)) := wrap_i64 (by omega) (by omega)
  have e : Nat.min (8 * ((n : Int) - 1 - (j : Int))).toNat (IntKind.bits .u64) = 8 * (n - 1 - j) := by
    have : IntKind.bits .u64 = 64 := rfl
    rw [this, show (8 * ((n : Int) - 1 - (j : Int))).toNat = 8 * (n - 1 - j) by omega]
    exact Nat.min_eq_left (by omega)
  rw [w1, w2, w3, e, wrap_u8_mod, Int.fdiv_eq_ediv_of_nonneg _ (by exact Int.le_of_lt (Int.pow_pos (by omega))), Int.pow_mul]
  rfl
/-- What both write. -/
theorem stR_storeB {B : List Int} {k n : Nat} {V : Int} (h0 : 0 ≤ V) (h1 : V < 18446744073709551616) (hn : n ≤ 8) (hk : k + n ≤ B.length) : stR k n V B = storeB B (k : Int) (n : Int) V := by
  apply List.ext_getElem?
  intro j
  rw [stR_get k n V B h0 h1 hk]
  unfold storeB
  simp only [Int.toNat_natCast]
  have hl : ((B.drop k).take n).length = n := by simp; omega
  by_cases c1 : j < k
  · rw [if_neg (by omega), List.getElem?_append_left (by simp; omega), List.getElem?_take, if_pos c1]
  · rw [List.getElem?_append_right (by simp; omega), List.length_take, Nat.min_eq_left (by omega)]
    by_cases c2 : j < k + n
    · rw [if_pos (by omega), List.getElem?_append_left (by rw [stL_length, hl]; omega), stL_get _ _ _ _ _ (by omega), if_pos (by omega), stB_byte h0 hn (by omega)]
      congr 2; omega
    · rw [if_neg (by omega), List.getElem?_append_right (by rw [stL_length, hl]; omega), stL_length, hl, List.getElem?_drop]
      congr 1; omega
end Go.Proofs.Ytfdlmneofbcpnaa.M
