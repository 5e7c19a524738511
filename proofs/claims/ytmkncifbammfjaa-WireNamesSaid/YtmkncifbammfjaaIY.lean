import Derived.Test.YtmkncifbammfjaaIX
set_option linter.unusedVariables false
set_option linter.unusedSimpArgs false
set_option linter.unnecessarySimpa false
set_option maxRecDepth 100000
namespace Go.Proofs.Ytmkncifbammfjaa.M
open Go.Abs
def hasB (s : ByteArray) (c : Int) : Bool := s.data.toList.any fun b => ((b.toNat : Int) == c)
def clsS (c : Nat) : ByteArray := [(⟨#[]⟩ : ByteArray), ⟨#[100, 105]⟩, ⟨#[100, 115]⟩, ⟨#[100, 98]⟩, ⟨#[100]⟩, ⟨#[100, 115, 111, 119]⟩, ⟨#[115, 112]⟩, ⟨#[100, 112]⟩, ⟨#[106]⟩, ⟨#[100, 106, 105]⟩, ⟨#[100, 115, 106]⟩, ⟨#[114]⟩, ⟨#[]⟩, ⟨#[99]⟩].getD c ⟨#[]⟩
def offR (s : ByteArray) (n : Int) : Bool := cond (hasB s 111) true (cond (hasB s 112) (wi n 0 7) (cond (hasB s 106) (wi n 0 255) (n == 0)))
def immR (s : ByteArray) (n : Int) : Bool := cond (hasB s 105) true (cond (hasB s 98) (wi n 0 63) (cond (hasB s 119) (szR n) (cond (hasB s 114) (wi n 1 16) (cond (hasB s 99) (hpR n) (n == 0)))))
theorem cls_lt (op : Nat) : cls op < 14 := by
  by_cases h : op ≤ 36
  · rcases ops37 h with rfl | rfl | rfl | rfl | rfl | rfl | rfl | rfl | rfl | rfl | rfl | rfl | rfl | rfl | rfl | rfl | rfl | rfl | rfl | rfl | rfl | rfl | rfl | rfl | rfl | rfl | rfl | rfl | rfl | rfl | rfl | rfl | rfl | rfl | rfl | rfl | rfl <;> decide
  · rw [(rowI_big h).2]; decide
section
variable {M : Mem}
theorem Within_C (n a b : Int) : C 59 [.int .i64 n, .int .i64 a, .int .i64 b] M = some (.bool (wi n a b), M) := by
  have hE := p59_0_eq C prog.meth n a b M
  refine c59 (hE.trans ?_)
  unfold wi
  cases decide (n ≥ a) <;> rfl
theorem has_loop {s : ByteArray} {c : Int} (hs : s.size ≤ 100) : ∀ (d i : Nat), i + d = s.size → p47_1 C prog.meth s c i M = some (.bool ((s.data.toList.drop i).any fun b => ((b.toNat : Int) == c)), M) := by
  have hl : s.data.toList.length = s.size := by rw [Array.length_toList]; rfl
  intro d
  induction d with
  | zero =>
    intro i hi
    have hE := p47_1_eq C prog.meth s c i M
    have h1 : ¬ ((i : Int) < (s.size : Int)) := by omega
    simp only [h1, decide_false, cond_false] at hE
    rw [hE, List.drop_eq_nil_of_le (by omega)]; rfl
  | succ d ih =>
    intro i hi
    have hE := p47_1_eq C prog.meth s c i M
    have h1 : ((i : Int) < (s.size : Int)) := by omega
    have h0 : (0 : Int) ≤ (i : Int) := by omega
    have hw : IntKind.wrap .i64 ((i : Int) + 1) = ((i + 1 : Nat) : Int) := by rw [wrap_i64 (by omega) (by omega)]; rfl
    have hg : s.data.toList[i]? = some (s.data.toList[i]'(by omega)) := List.getElem?_eq_getElem _
    simp only [h1, h0, decide_true, cond_true, Int.toNat_natCast, hg, Option.bind_some, hw] at hE
    rw [List.drop_eq_getElem_cons (by omega), List.any_cons]
    cases hb : (((s.data.toList[i]'(by omega)).toNat : Int) == c) with
    | true => rw [hb, cond_true] at hE; rw [hE]; rfl
    | false => rw [hb, cond_false] at hE; rw [hE, ih (i + 1) (by omega)]; rfl
theorem Has_C {s : ByteArray} (c : Int) (hs : s.size ≤ 100) : C 47 [.str s, .int .u8 c] M = some (.bool (hasB s c), M) := by
  have hE := p47_0_eq C prog.meth s c M
  have := has_loop (M := M) (c := c) hs s.size 0 (by omega)
  rw [List.drop_zero] at this
  exact c47 (hE.trans this)
theorem Row_C (op : Nat) : C 46 [.int .u8 (op : Int)] M = some (.tup [.str (clsS (cls op)), .bool (!Nat.beq (cls op) 0)], M) := by
  refine c46 ?_
  by_cases h : op ≤ 36
  · rcases ops37 h with rfl | rfl | rfl | rfl | rfl | rfl | rfl | rfl | rfl | rfl | rfl | rfl | rfl | rfl | rfl | rfl | rfl | rfl | rfl | rfl | rfl | rfl | rfl | rfl | rfl | rfl | rfl | rfl | rfl | rfl | rfl | rfl | rfl | rfl | rfl | rfl | rfl <;>
      simp only [p46_0_eq, p46_1_eq, p46_2_eq, p46_3_eq, p46_4_eq, p46_5_eq, p46_6_eq, p46_7_eq, p46_8_eq, p46_9_eq, p46_10_eq, p46_11_eq, p46_12_eq, p46_13_eq, p46_14_eq, Int.cast_ofNat_Int, Int.reduceBEq, Int.natCast_zero, Int.natCast_one, cond_true, cond_false] <;> rfl
  · have e : ∀ k : Int, k ≤ 36 → ((op : Int) == k) = false := fun k hk => by simp; omega
    simp only [p46_0_eq, p46_1_eq, p46_2_eq, p46_3_eq, p46_4_eq, p46_5_eq, p46_6_eq, p46_7_eq, p46_8_eq, p46_9_eq, p46_10_eq, p46_11_eq, p46_12_eq, p46_13_eq, p46_14_eq, e 1 (by omega), e 2 (by omega), e 3 (by omega), e 4 (by omega), e 5 (by omega), e 6 (by omega), e 7 (by omega), e 8 (by omega), e 9 (by omega), e 10 (by omega), e 11 (by omega), e 12 (by omega), e 13 (by omega), e 14 (by omega), e 15 (by omega), e 16 (by omega), e 17 (by omega), e 18 (by omega), e 19 (by omega), e 20 (by omega), e 21 (by omega), e 22 (by omega), e 23 (by omega), e 24 (by omega), e 25 (by omega), e 26 (by omega), e 27 (by omega), e 28 (by omega), e 29 (by omega), e 30 (by omega), e 31 (by omega), e 32 (by omega), e 33 (by omega), e 34 (by omega), e 35 (by omega), e 36 (by omega), cond_false]
    rw [(rowI_big h).2]; rfl
theorem Off_C {s : ByteArray} (n : Int) (hs : s.size ≤ 100) : C 48 [.str s, .int .i64 n] M = some (.bool (offR s n), M) := by
  have hE := p48_0_eq C prog.meth s n M
  simp only [int?_int, rvs, Int.reduceBEq, Int.reduceBNe, Int.cast_ofNat_Int, Has_C _ hs, Within_C] at hE
  refine c48 (hE.trans ?_)
  unfold offR
  cases hasB s 111 <;> cases hasB s 112 <;> cases hasB s 106 <;> rfl
theorem Imm_C {s : ByteArray} (n : Int) (hs : s.size ≤ 100) : C 49 [.str s, .int .i64 n] M = some (.bool (immR s n), M) := by
  have hE := p49_0_eq C prog.meth s n M
  simp only [int?_int, rvs, Int.reduceBEq, Int.reduceBNe, Int.cast_ofNat_Int, Has_C _ hs, Within_C] at hE
  refine c49 (hE.trans ?_)
  unfold immR szR hpR
  generalize (n == 1) = a1
  generalize (n == 2) = a2
  generalize (n == 4) = a4
  generalize wi n 1 8 = b1
  cases hasB s 105 <;> cases hasB s 98 <;> cases hasB s 119 <;> cases hasB s 114 <;> cases hasB s 99 <;> cases a1 <;> cases a2 <;> cases a4 <;> cases b1 <;> rfl
theorem clsS_size (op : Nat) : (clsS (cls op)).size ≤ 100 := by
  have h := cls_lt op
  generalize cls op = c at h
  have : c = 0 ∨ c = 1 ∨ c = 2 ∨ c = 3 ∨ c = 4 ∨ c = 5 ∨ c = 6 ∨ c = 7 ∨ c = 8 ∨ c = 9 ∨ c = 10 ∨ c = 11 ∨ c = 12 ∨ c = 13 := by omega
  rcases this with rfl | rfl | rfl | rfl | rfl | rfl | rfl | rfl | rfl | rfl | rfl | rfl | rfl | rfl <;> decide
def okR (c : Nat) (d s o i : Int) : Bool := !(cond (Nat.beq c 0) true (cond (decide (d > 9)) true (cond (decide (s > 9)) true (cond (cond (!hasB (clsS c) 100) (decide (d > 0)) false) true (cond (cond (!hasB (clsS c) 115) (decide (s > 0)) false) true (cond (offR (clsS c) o) (!immR (clsS c) i) true))))))
theorem okR_B (op : Nat) (d s o i : Int) : okR (cls op) d s o i = okB op d s o i := by
  unfold okB
  have h := cls_lt op
  generalize cls op = c at h
  have : c = 0 ∨ c = 1 ∨ c = 2 ∨ c = 3 ∨ c = 4 ∨ c = 5 ∨ c = 6 ∨ c = 7 ∨ c = 8 ∨ c = 9 ∨ c = 10 ∨ c = 11 ∨ c = 12 ∨ c = 13 := by omega
  rcases this with rfl | rfl | rfl | rfl | rfl | rfl | rfl | rfl | rfl | rfl | rfl | rfl | rfl | rfl <;> rfl
theorem RCheck_C {op : Nat} {d s o i : Int} (h : InsnR op d s o i) : ∃ M', C 31 [.agg [.int .u8 (op : Int), .int .u8 d, .int .u8 s, .int .i16 o, .int .i32 i]] M = some (.int .i64 (errI (okB op d s o i)), M') ∧ M.Upto M' := by
  have hE := p31_0_eq C prog.meth op d s o i M
  have hb := box5 M op d s o i
  have hu := Mem.Upto.alloc M ⟨[.int .u8 (op : Int), .int .u8 d, .int .u8 s, .int .i16 o, .int .i32 i], .fixed⟩
  generalize M.alloc ⟨[.int .u8 (op : Int), .int .u8 d, .int .u8 s, .int .i16 o, .int .i32 i], .fixed⟩ = M1 at hE hb hu
  refine ⟨M1, c31 (hE.trans ?_), hu⟩
  have hz := clsS_size op
  simp only [int?_int, rvs, Int.reduceBEq, Int.reduceBNe, Int.cast_ofNat_Int, hb, Row_C, Off_C _ hz, Imm_C _ hz, Has_C _ hz, h.w]
  rw [← okR_B]
  unfold okR errI
  generalize offR (clsS (cls op)) o = x1
  generalize immR (clsS (cls op)) i = x2
  generalize Nat.beq (cls op) 0 = x3
  generalize hasB (clsS (cls op)) 100 = x4
  generalize hasB (clsS (cls op)) 115 = x5
  generalize decide (d > 9) = x6
  generalize decide (s > 9) = x7
  generalize decide (d > 0) = x8
  generalize decide (s > 0) = x9
  cases x1 <;> cases x2 <;> cases x3 <;> cases x4 <;> cases x5 <;> cases x6 <;> cases x7 <;> cases x8 <;> cases x9 <;> rfl
theorem Check_B {op : Nat} {d s o i : Int} (h : InsnR op d s o i) : ∃ M', C 29 [.agg [.int .u8 (op : Int), .int .u8 d, .int .u8 s, .int .i16 o, .int .i32 i]] M = some (.int .i64 (errI (okB op d s o i)), M') ∧ M.Upto M' := by
  rw [← okI_B h]; exact Check_C h
end
end Go.Proofs.Ytmkncifbammfjaa.M
