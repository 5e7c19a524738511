/- HelperSums. -/
import Derived.Test.YtidofnpfeibbfaaHF
set_option linter.unusedVariables false
set_option linter.unusedSimpArgs false
set_option linter.unnecessarySimpa false
set_option maxRecDepth 100000
namespace Go.Proofs.Ytidofnpfeibbfaa.M
open Go.Abs Go.RowKit

section
variable {M0 M : Mem} {role : Nat → Rj} {gs : List Gp} {B : List Int} {A T mv s hd : Nat} {cs : List AVal}
theorem New0_C (H : GS false KI M0 M role [s] [some 0] gs [⟨B, A, T, mv⟩]) : ∃ M' role' hd, C 15 [.ptr (some (s, 0)), .sl none 0 (.known 0), .sl none 0 (.known 0)] M = some (.tup [.ptr (some (hd, 0)), .int .i64 0], M') ∧
    Hnd M0 M' role' gs B A T mv s hd [.sl none 0 (.known 0), .sl none 0 (.known 0), .sl none 0 (.known 0), .int .i64 (-1)] ∧ M.Upto M' := by
  have hE := p15_0_eq C prog.meth (some (s, 0)) none 0 (.known 0) none 0 (.known 0) M
  have h41 := p41_0_eq C prog.meth none 0 (.known 0) M
  simp only [Option.isNone_none, cond_true] at h41
  obtain ⟨M1, e1, g1, u1, n1⟩ := alloc_at M ⟨[.ptr (some (s, 0)), .sl none 0 (.known 0), .sl none 0 (.known 0), .sl none 0 (.known 0), .int .i64 (-1)], .fixed⟩
  have hE1 := p15_1_eq C prog.meth none 0 (.known 0) (some (M.n, 0)) none 0 (.known 0) 0 0 M1
  have z1 : ¬ (((0 : Nat) : Int) > 4) := by decide
  have z2 : ¬ ((0 : Int) < 0) := by decide
  have z3 : ¬ (((0 : Nat) : Int) > 8) := by decide
  simp only [alive_C H, c41 h41, Option.bind_some, List.getElem?_cons_zero, List.getElem?_cons_succ, int?_int, AVal.bool?, AVal.ptr?, AVal.sl?, AVal.tup?, AVal.agg?, AVal.ifc?, AVal.fn?, AVal.str?, List.head?_cons, List.tail_cons, List.isEmpty_nil, cond_true, cond_false, Option.isNone_some, Option.isNone_none, Bool.not_true, Bool.not_false, decide_true, decide_false, beq_self_eq_true, bne_self_eq_false, Int.reduceBEq, Int.reduceBNe, Int.cast_ofNat_Int, z1, e1] at hE
  simp only [z2, z3, decide_false, cond_false] at hE1
  have hn := H.up.1
  refine ⟨M1, _, M.n, c15 (hE.trans hE1), ⟨H.ext' u1, g1, ?_, hn⟩, u1⟩
  show (if M.n < M.n then _ else _) = _
  rw [if_neg (by omega)]
/-- Numbers in a box. -/
theorem qbox (M : Mem) (x y z q4 q5 : Int) : ∃ M', (M.alloc ⟨[.int .u64 0, .int .u64 0, .int .u64 0, .int .u64 0, .int .u64 0], .fixed⟩).st M.n 0 [.int .u64 x, .int .u64 y, .int .u64 z, .int .u64 q4, .int .u64 q5] = some M' ∧ M.Upto M' ∧ M'.n = M.n + 1 ∧ M'.get M.n = some ⟨[.int .u64 x, .int .u64 y, .int .u64 z, .int .u64 q4, .int .u64 q5], .fixed⟩ := by
  have g := get_alloc_self M ⟨[.int .u64 0, .int .u64 0, .int .u64 0, .int .u64 0, .int .u64 0], .fixed⟩
  refine ⟨_, st_fix g (by simp), ⟨by simp, fun o ho => ?_⟩, by simp, ?_⟩
  · rw [get_put_ne (by omega), get_alloc_lt ho]
  · rw [get_put_self (by simp)]; rfl
/-- What HelpFix has changed. -/
def fixed (B : List Int) (x y z r : Nat) : List Int := (((B.set y (((z % 65536 : Nat) : Int) / 256)).set (y + 1) (((z % 65536 : Nat) : Int) % 256)).set x ((r : Int) / 256)).set (x + 1) ((r : Int) % 256)
theorem fixed_length (B : List Int) (x y z r : Nat) : (fixed B x y z r).length = B.length := by simp [fixed]
theorem fixed_wf {B : List Int} (hw : wfB B) {x y z r : Nat} (hr : r ≤ 65535) : wfB (fixed B x y z r) := by
  have one : ∀ (L : List Int) (i : Nat) (v : Int), wfB L → 0 ≤ v ∧ v < 256 → wfB (L.set i v) := fun L i v hL hv c hc => by
    rcases List.mem_or_eq_of_mem_set hc with h | h
    · exact hL c h
    · rw [h]; exact hv
  exact one _ _ _ (one _ _ _ (one _ _ _ (one _ _ _ hw (by omega)) (by omega)) (by omega)) (by omega)
theorem fixed_other {B : List Int} {x y z r k : Nat} (h1 : k ≠ x) (h2 : k ≠ x + 1) (h3 : k ≠ y) (h4 : k ≠ y + 1) : (fixed B x y z r)[k]? = B[k]? := by
  unfold fixed
  rw [List.getElem?_set_ne (Ne.symm h2), List.getElem?_set_ne (Ne.symm h1), List.getElem?_set_ne (Ne.symm h4), List.getElem?_set_ne (Ne.symm h3)]
theorem fixed_y {B : List Int} {x y z r : Nat} (hxy : x ≠ y) (hp : x % 2 = y % 2) (hy : y + 2 ≤ B.length) : (fixed B x y z r)[y]? = some (((z % 65536 : Nat) : Int) / 256) ∧ (fixed B x y z r)[y + 1]? = some (((z % 65536 : Nat) : Int) % 256) := by
  unfold fixed
  constructor
  · rw [List.getElem?_set_ne (by omega), List.getElem?_set_ne (by omega), List.getElem?_set_ne (by omega), List.getElem?_set_self (by omega)]
  · rw [List.getElem?_set_ne (by omega), List.getElem?_set_ne (by omega), List.getElem?_set_self (by simp; omega)]
theorem mayN_iff {n x y : Nat} : mayN n x y = true ↔ x + 2 ≤ n ∧ y + 2 ≤ n ∧ x ≠ y ∧ x % 2 = y % 2 := by
  unfold mayN
  simp only [Bool.and_eq_true, decide_eq_true_eq]
  exact ⟨fun ⟨⟨⟨a, b⟩, c⟩, d⟩ => ⟨a, b, c, d⟩, fun ⟨a, b, c, d⟩ => ⟨⟨⟨a, b⟩, c⟩, d⟩⟩
theorem sum_even {B : List Int} {x y z r : Nat} (hm : mayN B.length x y = true) (hx : x % 2 = 0) (hr : ∀ (h1 : x + 2 ≤ B.length) (h2 : y + 2 ≤ B.length), ((r : Int) + (z % 65536 : Nat)) % 65535 = (B[x]'(by omega) * 256 + B[x + 1]'(by omega) + (B[y]'(by omega) * 256 + B[y + 1]'(by omega))) % 65535) :
    wsum 0 (fixed B x y z r) % 65535 = wsum 0 B % 65535 := by
  obtain ⟨h1, h2, h3, h4⟩ := mayN_iff.1 hm
  have := hr h1 h2
  unfold fixed
  exact two_words (by omega) hx (Ne.symm h3) (by omega) (by omega) (by omega)
theorem sum_odd {B : List Int} {x y z r : Nat} (hm : mayN B.length x y = true) (hl : B.length % 2 = 0) (hx : x % 2 = 1) (hr : ∀ (h1 : x + 2 ≤ B.length) (h2 : y + 2 ≤ B.length), ((r : Int) + (z % 65536 : Nat)) % 65535 = (B[x]'(by omega) * 256 + B[x + 1]'(by omega) + (B[y]'(by omega) * 256 + B[y + 1]'(by omega))) % 65535) :
    wsum 0 (((fixed B x y z r).drop 1).take (B.length - 1 - 1)) % 65535 = wsum 0 ((B.drop 1).take (B.length - 1 - 1)) % 65535 := by
  obtain ⟨h1, h2, h3, h4⟩ := mayN_iff.1 hm
  have hh := hr h1 h2
  obtain ⟨x', rfl⟩ : ∃ x', x = x' + 1 := ⟨x - 1, by omega⟩
  obtain ⟨y', rfl⟩ : ∃ y', y = y' + 1 := ⟨y - 1, by omega⟩
  have e : ((fixed B (x' + 1) (y' + 1) z r).drop 1).take (B.length - 1 - 1) = fixed ((B.drop 1).take (B.length - 1 - 1)) x' y' z r := by
    unfold fixed
    cases B with
    | nil => simp at h1
    | cons b B => simp only [List.set_cons_succ, List.drop_succ_cons, List.drop_zero, List.take_set]
  rw [e]
  have hl' : ((B.drop 1).take (B.length - 1 - 1)).length = B.length - 2 := by simp; omega
  have g : ∀ k (hk : k < ((B.drop 1).take (B.length - 1 - 1)).length), ((B.drop 1).take (B.length - 1 - 1))[k]'hk = B[k + 1]'(by omega) := fun k hk => by
    rw [List.getElem_take, List.getElem_drop]; congr 1; omega
  unfold fixed
  refine two_words (by omega) (by omega) (by omega) (by omega) (by omega) ?_
  rw [g, g, g, g]
  omega
end
section
variable {M : Mem} {v : SlV} {xs : List Int}
/-- A middle is cut out of an own slice. -/
theorem own_mid (h : Own1 M v xs) (hl : 4 ≤ v.2.1) (hbig : v.2.1 < 2 ^ 40) : ∃ o, (∀ {β : Type} (K : Option (Nat × Nat) → Nat → Cap → Option β), slcK false 1 v.1 v.2.1 v.2.2 M (some (.int .i64 1)) (some (.int .i64 (IntKind.wrap .i64 ((v.2.1 : Int) - 1)))) none K = K (some (o, 1)) (v.2.1 - 1 - 1) (.unk 1)) ∧ M.ints .u8 (some (o, 1)) (v.2.1 - 1 - 1) (.unk 1) = some ((xs.drop 1).take (v.2.1 - 1 - 1)) := by
  obtain ⟨hx, h2⟩ := h
  obtain ⟨o, e1, e2, g⟩ := h2 (by omega)
  refine ⟨o, fun K => ?_, ?_⟩
  · have w : IntKind.wrap .i64 ((v.2.1 : Int) - 1) = ((v.2.1 - 1 : Nat) : Int) := by rw [wrap_i64 (by omega) (by omega)]; omega
    rw [e1, e2, w]
    have := slcK_own (K := K) (len := v.2.1) (l := 1) (h := v.2.1 - 1) (kl := .i64) (kh := .i64) g (.inl rfl) (by simp; omega) (by omega)
    rw [show (((1 : Nat)) : Int) = 1 from rfl] at this
    rw [this, Go.Abs.beq_false (by omega)]; rfl
  · exact cut_ints g (by simp) (by omega) (by omega)
end
end Go.Proofs.Ytidofnpfeibbfaa.M
