/- The laws of insn: what is known. -/
import Derived.Test.YtpdelhcokcikaaaIT
set_option linter.unusedVariables false
set_option linter.unusedSimpArgs false
set_option linter.unnecessarySimpa false
set_option maxRecDepth 100000
namespace Go.Proofs.Ytpdelhcokcikaaa.M
open Go.Abs

/-! Rows of instructions. -/
abbrev IRow := Nat × Int × Int × Int × Int
def cells5 (r : IRow) : List AVal := [.int .u8 (r.1 : Int), .int .u8 r.2.1, .int .u8 r.2.2.1, .int .i16 r.2.2.2.1, .int .i32 r.2.2.2.2]
def cellsOf (l : List IRow) : List AVal := l.flatMap cells5
theorem cellsOf_at : ∀ (l : List IRow) (j k : Nat) (r : IRow), k < 5 → l[j]? = some r → (cellsOf l)[j * 5 + k]? = (cells5 r)[k]?
  | [], j, k, r, hk, h => by simp at h
  | x :: l, 0, k, r, hk, h => by
    obtain rfl : x = r := by simpa using h
    unfold cellsOf
    rw [List.flatMap_cons, Nat.zero_mul, Nat.zero_add, List.getElem?_append_left (by simpa [cells5] using hk)]
  | x :: l, j + 1, k, r, hk, h => by
    have ih := cellsOf_at l j k r hk (by simpa using h)
    unfold cellsOf at ih ⊢
    rw [List.flatMap_cons, List.getElem?_append_right (by simp [cells5]; omega), ← ih]
    congr 1
    simp [cells5]; omega
theorem row_at {M : Mem} {o : Nat} {l : List IRow} {j : Nat} {r : IRow} (hg : M.get o = some ⟨cellsOf l, .fixed⟩) (hr : l[j]? = some r) :
    M.ldI .u8 o (j * 5) = some (r.1 : Int) ∧ M.ldI .u8 o (j * 5 + 1) = some r.2.1 ∧ M.ldI .u8 o (j * 5 + 1 + 1) = some r.2.2.1 ∧ M.ldI .i16 o (j * 5 + 1 + 1 + 1) = some r.2.2.2.1 ∧ M.ldI .i32 o (j * 5 + 1 + 1 + 1 + 1) = some r.2.2.2.2 := by
  have h0 := cellsOf_at l j 0 r (by omega) hr
  have h1 := cellsOf_at l j 1 r (by omega) hr
  have h2 := cellsOf_at l j 2 r (by omega) hr
  have h3 := cellsOf_at l j 3 r (by omega) hr
  have h4 := cellsOf_at l j 4 r (by omega) hr
  rw [Nat.add_zero] at h0
  refine ⟨?_, ?_, ?_, ?_, ?_⟩
  · rw [ldI_at hg, h0]; rfl
  · rw [ldI_at hg, h1]; rfl
  · rw [ldI_at hg, Nat.add_assoc, h2]; rfl
  · rw [ldI_at hg, Nat.add_assoc, Nat.add_assoc, h3]; rfl
  · rw [ldI_at hg, Nat.add_assoc, Nat.add_assoc, Nat.add_assoc, h4]; rfl
def RowR (r : IRow) : Prop := InsnR r.1 r.2.1 r.2.2.1 r.2.2.2.1 r.2.2.2.2
def rowOk (r : IRow) : Bool := okB r.1 r.2.1 r.2.2.1 r.2.2.2.1 r.2.2.2.2
def inR (r : IRow) : Bool := decide (r.1 < 256) && decide (0 ≤ r.2.1) && decide (r.2.1 < 256) && decide (0 ≤ r.2.2.1) && decide (r.2.2.1 < 256) && decide (-32768 ≤ r.2.2.2.1) && decide (r.2.2.2.1 < 32768) && decide (-2147483648 ≤ r.2.2.2.2) && decide (r.2.2.2.2 < 2147483648)
theorem inR_R {r : IRow} (h : inR r = true) : RowR r := by
  unfold inR at h
  simp only [Bool.and_eq_true, decide_eq_true_eq] at h
  exact ⟨h.1.1.1.1.1.1.1.1, ⟨h.1.1.1.1.1.1.1.2, h.1.1.1.1.1.1.2⟩, ⟨h.1.1.1.1.1.2, h.1.1.1.1.2⟩, ⟨h.1.1.1.2, h.1.1.2⟩, ⟨h.1.2, h.2⟩⟩
def goodL : List (Nat × IRow) := [(85568397215006719, 1, 3, 0, 0, -1), (1585268164051075072, 22, 0, 0, 255, 0), (2377900603251621904, 33, 0, 0, 0, 16), (2522015791327477783, 35, 0, 0, 0, 23), (2594073385365405696, 36, 0, 0, 0, 0), (1374301573789777928, 19, 1, 2, -32768, 8)]
def badL : List IRow := [(1, 10, 0, 0, 1), (2, 0, 0, 0, 1), (12, 0, 0, 0, 64), (13, 0, 0, 0, -1), (18, 0, 0, 0, 3), (18, 0, 0, 0, 0), (20, 0, 0, 8, 0), (21, 0, 0, -1, 0), (22, 0, 0, -1, 0), (22, 0, 0, 256, 0), (33, 0, 0, 0, 0), (33, 0, 0, 0, 17), (35, 0, 0, 0, 9), (35, 0, 0, 0, 15), (35, 0, 0, 0, 24), (35, 0, 0, 0, 0), (0, 0, 0, 0, 0), (37, 0, 0, 0, 0), (255, 0, 0, 0, 0), (36, 1, 0, 0, 0), (14, 0, 1, 0, 0), (20, 1, 0, 0, 0), (23, 0, 1, 0, 0), (27, 0, 0, 0, 1), (4, 0, 0, 1, 0), (2, 0, 16, 0, 0)]
def badW : List Nat := [72057598332895232, 72339069014638592, 0, 117093590311632896, 18446744073709551615, 1585268168346042368]
theorem good_all : ∀ p ∈ goodL, RowR p.2 ∧ rowOk p.2 = true ∧ wordN p.2.1 p.2.2.1 p.2.2.2.1 p.2.2.2.2.1 p.2.2.2.2.2 = p.1 := by
  have : (goodL.all fun p => inR p.2 && rowOk p.2 && Nat.beq (wordN p.2.1 p.2.2.1 p.2.2.2.1 p.2.2.2.2.1 p.2.2.2.2.2) p.1) = true := by kernel_rfl
  intro p hp
  have := List.all_eq_true.1 this p hp
  simp only [Bool.and_eq_true] at this
  exact ⟨inR_R this.1.1, this.1.2, Nat.eq_of_beq_eq_true this.2⟩
theorem bad_all : ∀ r ∈ badL, RowR r ∧ rowOk r = false := by
  have : (badL.all fun r => inR r && !rowOk r) = true := by kernel_rfl
  intro p hp
  have := List.all_eq_true.1 this p hp
  simp only [Bool.and_eq_true] at this
  exact ⟨inR_R this.1, by simpa using this.2⟩
theorem badW_all : ∀ w ∈ badW, w < 2 ^ 64 ∧ okB (opW w) (dW w) (sW w) (oW w) (iW w) = false := by
  have : (badW.all fun w => Nat.blt w (2 ^ 64) && !okB (opW w) (dW w) (sW w) (oW w) (iW w)) = true := by kernel_rfl
  intro p hp
  have := List.all_eq_true.1 this p hp
  simp only [Bool.and_eq_true] at this
  exact ⟨Mem.blt_iff.1 this.1, by simpa using this.2⟩
theorem known_words : ∀ k : Fin 36, opF (nameB ((k.val + 1 : Nat) : Int)) wordsL = some (nameB ((k.val + 1 : Nat) : Int), ((k.val + 1 : Nat) : Int)) := by
  have h : wordsL.all (fun p => match opF p.1 wordsL with | some q => q.1.data.toList == p.1.data.toList && q.2 == p.2 | none => false) = true := by kernel_rfl
  have h2 : ∀ k : Fin 36, ∃ s, wordsL[k.val]? = some (s, ((k.val + 1 : Nat) : Int)) := by
    intro k
    have hk : k.val < wordsL.length := by have : wordsL.length = 36 := rfl; omega
    have h3 : (wordsL.map Prod.snd) = (List.range 36).map (fun k => ((k + 1 : Nat) : Int)) := by kernel_rfl
    have h4 := congrArg (fun l => l[k.val]?) h3
    simp only [List.getElem?_map, List.getElem?_eq_getElem hk, Option.map_some, List.getElem?_range k.isLt] at h4
    exact ⟨wordsL[k.val].1, by rw [List.getElem?_eq_getElem hk]; exact congrArg some (Prod.ext rfl (Option.some.inj h4))⟩
  intro k
  obtain ⟨s, hs⟩ := h2 k
  have hm := List.mem_of_getElem? hs
  have hn := nameB_of hm
  have := List.all_eq_true.1 h _ hm
  rw [hn]
  simp only at this
  split at this
  · rename_i q hq
    rw [hq]
    simp only [Bool.and_eq_true, beq_iff_eq] at this
    obtain ⟨q1, q2⟩ := q
    have e1 : q1 = s := by
      have := this.1
      obtain ⟨⟨a⟩⟩ := q1
      obtain ⟨⟨b⟩⟩ := s
      simp only at this
      rw [this]
    rw [e1]
    exact congrArg some (Prod.ext rfl this.2)
  · cases this
section
/-- Names and numbers. -/
theorem known_names : ∀ (d j : Nat) (M : Mem), j + d = 256 → ∃ M', p9_4 C prog.meth true j M = some (.bool true, M') := by
  intro d
  induction d with
  | zero =>
    intro j M hj
    have hE := p9_4_eq C prog.meth true j M
    have c1 : ¬ ((j : Int) < 256) := by omega
    obtain ⟨Ma, ca, _⟩ := Op_C ⟨#[74, 103, 116]⟩ Mem.empty
    obtain ⟨Mb, cb, _⟩ := Op_C ⟨#[]⟩ Mem.empty
    obtain ⟨Mw, cw⟩ := works_C
    have ea : opF ⟨#[74, 103, 116]⟩ wordsL = none := by kernel_rfl
    have eb : opF ⟨#[]⟩ wordsL = none := by kernel_rfl
    rw [ea] at ca
    rw [eb] at cb
    unfold opV at ca cb
    simp only [c1, Option.bind_some, List.getElem?_cons_zero, List.getElem?_cons_succ, int?_int, AVal.bool?, AVal.ptr?, AVal.sl?, AVal.tup?, AVal.agg?, AVal.ifc?, AVal.fn?, AVal.str?, List.head?_cons, List.tail_cons, List.isEmpty_nil, cond_true, cond_false, Option.isNone_some, Option.isNone_none, Bool.not_true, Bool.not_false, decide_true, decide_false, beq_self_eq_true, bne_self_eq_false, Int.reduceBEq, Int.reduceBNe, Int.cast_ofNat_Int] at hE
    rw [ca, Option.bind_some] at hE
    simp only [Option.bind_some, List.getElem?_cons_zero, List.getElem?_cons_succ, int?_int, AVal.bool?, AVal.ptr?, AVal.sl?, AVal.tup?, AVal.agg?, AVal.ifc?, AVal.fn?, AVal.str?, List.head?_cons, List.tail_cons, List.isEmpty_nil, cond_true, cond_false, Option.isNone_some, Option.isNone_none, Bool.not_true, Bool.not_false, decide_true, decide_false, beq_self_eq_true, bne_self_eq_false, Int.reduceBEq, Int.reduceBNe, Int.cast_ofNat_Int] at hE
    rw [cb, Option.bind_some] at hE
    simp only [Option.bind_some, List.getElem?_cons_zero, List.getElem?_cons_succ, int?_int, AVal.bool?, AVal.ptr?, AVal.sl?, AVal.tup?, AVal.agg?, AVal.ifc?, AVal.fn?, AVal.str?, List.head?_cons, List.tail_cons, List.isEmpty_nil, cond_true, cond_false, Option.isNone_some, Option.isNone_none, Bool.not_true, Bool.not_false, decide_true, decide_false, beq_self_eq_true, bne_self_eq_false, Int.reduceBEq, Int.reduceBNe, Int.cast_ofNat_Int] at hE
    rw [cw, Option.bind_some] at hE
    simp only [Option.bind_some, List.getElem?_cons_zero, List.getElem?_cons_succ, int?_int, AVal.bool?, AVal.ptr?, AVal.sl?, AVal.tup?, AVal.agg?, AVal.ifc?, AVal.fn?, AVal.str?, List.head?_cons, List.tail_cons, List.isEmpty_nil, cond_true, cond_false, Option.isNone_some, Option.isNone_none, Bool.not_true, Bool.not_false, decide_true, decide_false, beq_self_eq_true, bne_self_eq_false, Int.reduceBEq, Int.reduceBNe, Int.cast_ofNat_Int] at hE
    exact ⟨_, hE⟩
  | succ d ih =>
    intro j M hj
    have hE := p9_4_eq C prog.meth true j M
    have c1 : ((j : Int) < 256) := by omega
    have hw : IntKind.wrap .i64 ((j : Int) + 1) = ((j + 1 : Nat) : Int) := by rw [wrap_i64 (by omega) (by omega)]; rfl
    have hw8 : IntKind.wrap .u8 (j : Int) = (j : Int) := by rw [wu8]; omega
    have hwj : IntKind.wrap .i64 (j : Int) = (j : Int) := wrap_i64 (by omega) (by omega)
    have cn := Name_C (j : Int) Mem.empty
    obtain ⟨Ma, ca, _⟩ := Op_C (nameB (j : Int)) Mem.empty
    simp only [c1, hw8, hw, Option.bind_some, List.getElem?_cons_zero, List.getElem?_cons_succ, int?_int, AVal.bool?, AVal.ptr?, AVal.sl?, AVal.tup?, AVal.agg?, AVal.ifc?, AVal.fn?, AVal.str?, List.head?_cons, List.tail_cons, List.isEmpty_nil, cond_true, cond_false, Option.isNone_some, Option.isNone_none, Bool.not_true, Bool.not_false, decide_true, decide_false, beq_self_eq_true, bne_self_eq_false, Int.reduceBEq, Int.reduceBNe, Int.cast_ofNat_Int] at hE
    rw [cn, Option.bind_some] at hE
    simp only [Option.bind_some, List.getElem?_cons_zero, List.getElem?_cons_succ, int?_int, AVal.bool?, AVal.ptr?, AVal.sl?, AVal.tup?, AVal.agg?, AVal.ifc?, AVal.fn?, AVal.str?, List.head?_cons, List.tail_cons, List.isEmpty_nil, cond_true, cond_false, Option.isNone_some, Option.isNone_none, Bool.not_true, Bool.not_false, decide_true, decide_false, beq_self_eq_true, bne_self_eq_false, Int.reduceBEq, Int.reduceBNe, Int.cast_ofNat_Int] at hE
    rw [ca, Option.bind_some] at hE
    by_cases h : 1 ≤ j ∧ j ≤ 36
    · have hk := known_words ⟨j - 1, by omega⟩
      have ej : j - 1 + 1 = j := by omega
      simp only [ej] at hk
      rw [hk] at hE
      unfold opV at hE
      have d1 : (j : Int) ≥ 1 := by omega
      have d2 : (j : Int) ≤ 36 := by omega
      simp only [Option.bind_some, List.getElem?_cons_zero, List.getElem?_cons_succ, int?_int, AVal.bool?, AVal.ptr?, AVal.sl?, AVal.tup?, AVal.agg?, AVal.ifc?, AVal.fn?, AVal.str?, List.head?_cons, List.tail_cons, List.isEmpty_nil, cond_true, cond_false, Option.isNone_some, Option.isNone_none, Bool.not_true, Bool.not_false, decide_true, decide_false, beq_self_eq_true, bne_self_eq_false, Int.reduceBEq, Int.reduceBNe, Int.cast_ofNat_Int, Option.isSome_some, hwj, d1, d2] at hE
      obtain ⟨M', r⟩ := ih (j + 1) M (by omega)
      exact ⟨M', hE.trans r⟩
    · have hk : nameB (j : Int) = ⟨#[]⟩ := nameB_none (fun s hs => by have := words_small _ hs; simp only at this; omega)
      have eb : opF ⟨#[]⟩ wordsL = none := by kernel_rfl
      rw [hk, eb] at hE
      unfold opV at hE
      obtain ⟨M', r⟩ := ih (j + 1) M (by omega)
      refine ⟨M', hE.trans ?_⟩
      simp only [Option.bind_some, List.getElem?_cons_zero, List.getElem?_cons_succ, int?_int, AVal.bool?, AVal.ptr?, AVal.sl?, AVal.tup?, AVal.agg?, AVal.ifc?, AVal.fn?, AVal.str?, List.head?_cons, List.tail_cons, List.isEmpty_nil, cond_true, cond_false, Option.isNone_some, Option.isNone_none, Bool.not_true, Bool.not_false, decide_true, decide_false, beq_self_eq_true, bne_self_eq_false, Int.reduceBEq, Int.reduceBNe, Int.cast_ofNat_Int, Option.isSome_none]
      by_cases d1 : (j : Int) ≥ 1
      · have d2 : ¬ ((j : Int) ≤ 36) := by omega
        simp only [d1, d2, decide_true, decide_false, cond_true, cond_false, beq_self_eq_true, Bool.not_true]
        exact r
      · simp only [d1, decide_false, cond_false]
        exact r
theorem reads_step {op : Nat} {d s o i : Int} (h : InsnR op d s o i) {xs : List Int} (hx : regs op d s o i = xs) (M : Mem) : ∃ (M1 : Mem) (v : SlV), C 17 [.agg [.int .u8 (op : Int), .int .u8 d, .int .u8 s, .int .i16 o, .int .i32 i]] M = some (.sl v.1 v.2.1 v.2.2, M1) ∧
    C 21 [.sl v.1 v.2.1 v.2.2, .sl (some (M1.n, 0)) xs.length (.known xs.length)] (M1.alloc ⟨xs.map (.int .i64), .fixed⟩) = some (.bool true, M1.alloc ⟨xs.map (.int .i64), .fixed⟩) ∧ v.2.1 = xs.length := by
  obtain ⟨M1, v, q, u, ho, _⟩ := Reads_C (M := M) h
  rw [hx] at ho
  refine ⟨M1, v, q, ?_, ho.1.symm⟩
  have hle := regs_le (op := op) (d := d) (s := s) (o := o) (i := i)
  rw [hx] at hle
  have g := get_alloc_self M1 ⟨xs.map (.int .i64), .fixed⟩
  have h2 : (M1.alloc ⟨xs.map (.int .i64), .fixed⟩).ints .i64 (some (M1.n, 0)) xs.length (.known xs.length) = some xs := ints_whole g (by simp) rfl
  have := EqInts_C (ho.upto (Mem.Upto.alloc _ _)).ints h2 (by have := ho.1; omega)
  rwa [decide_eq_true rfl] at this
theorem k5 (op : Nat) (d s o i : Int) (h : inR (op, d, s, o, i) = true) : InsnR op d s o i := inR_R h
/-- Words that are none. -/
theorem known_badW {o : Nat} : ∀ (l : List Nat) (j : Nat) (M : Mem), badW.drop j = l → j ≤ 6 → M.get o = some ⟨badW.map fun w : Nat => .int .u64 (w : Int), .fixed⟩ → ∃ M', p9_3 C prog.meth (some (o, 0)) 6 (.known 6) j M = some (.bool true, M') := by
  intro l
  induction l with
  | nil =>
    intro j M hl h6 hg
    have hE := p9_3_eq C prog.meth (some (o, 0)) 6 (.known 6) j M
    have : 6 ≤ j := by
      have := congrArg List.length hl
      rw [List.length_drop, show badW.length = 6 from rfl] at this
      simp at this; omega
    have c1 : ¬ ((j : Int) < 6) := by omega
    obtain ⟨M1, v1, q1, r1, l1⟩ := reads_step (k5 5 4 4 0 0 rfl) (xs := [4]) (by kernel_rfl) M
    obtain ⟨M2, v2, q2, r2, l2⟩ := reads_step (k5 19 2 1 0 1 rfl) (xs := [1, 2]) (by kernel_rfl) (M1.alloc ⟨[4].map (.int .i64), .fixed⟩)
    obtain ⟨M3, v3, q3, r3, l3⟩ := reads_step (k5 35 0 0 0 3 rfl) (xs := [1]) (by kernel_rfl) (M2.alloc ⟨[1, 2].map (.int .i64), .fixed⟩)
    obtain ⟨M4, v4, q4, r4, l4⟩ := reads_step (k5 35 0 0 0 20 rfl) (xs := [1, 2, 3]) (by kernel_rfl) (M3.alloc ⟨[1].map (.int .i64), .fixed⟩)
    obtain ⟨M5, v5, q5, r5, l5⟩ := reads_step (k5 36 0 0 0 0 rfl) (xs := [0]) (by kernel_rfl) (M4.alloc ⟨[1, 2, 3].map (.int .i64), .fixed⟩)
    obtain ⟨M6, v6, q6, r6, l6⟩ := reads_step (k5 21 5 0 0 0 rfl) (xs := []) (by kernel_rfl) (M5.alloc ⟨[0].map (.int .i64), .fixed⟩)
    simp only [List.map_cons, List.map_nil, List.length_cons, List.length_nil, Nat.zero_add, Nat.reduceAdd, Int.cast_ofNat_Int] at q1 r1 q2 r2 q3 r3 q4 r4 q5 r5 q6 l6
    simp only [c1, Option.bind_some, List.getElem?_cons_zero, List.getElem?_cons_succ, int?_int, AVal.bool?, AVal.ptr?, AVal.sl?, AVal.tup?, AVal.agg?, AVal.ifc?, AVal.fn?, AVal.str?, List.head?_cons, List.tail_cons, List.isEmpty_nil, cond_true, cond_false, Option.isNone_some, Option.isNone_none, Bool.not_true, Bool.not_false, decide_true, decide_false, beq_self_eq_true, bne_self_eq_false, Int.reduceBEq, Int.reduceBNe, Int.cast_ofNat_Int] at hE
    rw [q1, Option.bind_some] at hE
    simp only [Option.bind_some, List.getElem?_cons_zero, List.getElem?_cons_succ, int?_int, AVal.bool?, AVal.ptr?, AVal.sl?, AVal.tup?, AVal.agg?, AVal.ifc?, AVal.fn?, AVal.str?, List.head?_cons, List.tail_cons, List.isEmpty_nil, cond_true, cond_false, Option.isNone_some, Option.isNone_none, Bool.not_true, Bool.not_false, decide_true, decide_false, beq_self_eq_true, bne_self_eq_false, Int.reduceBEq, Int.reduceBNe, Int.cast_ofNat_Int] at hE
    rw [r1, Option.bind_some] at hE
    simp only [Option.bind_some, List.getElem?_cons_zero, List.getElem?_cons_succ, int?_int, AVal.bool?, AVal.ptr?, AVal.sl?, AVal.tup?, AVal.agg?, AVal.ifc?, AVal.fn?, AVal.str?, List.head?_cons, List.tail_cons, List.isEmpty_nil, cond_true, cond_false, Option.isNone_some, Option.isNone_none, Bool.not_true, Bool.not_false, decide_true, decide_false, beq_self_eq_true, bne_self_eq_false, Int.reduceBEq, Int.reduceBNe, Int.cast_ofNat_Int] at hE
    rw [q2, Option.bind_some] at hE
    simp only [Option.bind_some, List.getElem?_cons_zero, List.getElem?_cons_succ, int?_int, AVal.bool?, AVal.ptr?, AVal.sl?, AVal.tup?, AVal.agg?, AVal.ifc?, AVal.fn?, AVal.str?, List.head?_cons, List.tail_cons, List.isEmpty_nil, cond_true, cond_false, Option.isNone_some, Option.isNone_none, Bool.not_true, Bool.not_false, decide_true, decide_false, beq_self_eq_true, bne_self_eq_false, Int.reduceBEq, Int.reduceBNe, Int.cast_ofNat_Int] at hE
    rw [r2, Option.bind_some] at hE
    simp only [Option.bind_some, List.getElem?_cons_zero, List.getElem?_cons_succ, int?_int, AVal.bool?, AVal.ptr?, AVal.sl?, AVal.tup?, AVal.agg?, AVal.ifc?, AVal.fn?, AVal.str?, List.head?_cons, List.tail_cons, List.isEmpty_nil, cond_true, cond_false, Option.isNone_some, Option.isNone_none, Bool.not_true, Bool.not_false, decide_true, decide_false, beq_self_eq_true, bne_self_eq_false, Int.reduceBEq, Int.reduceBNe, Int.cast_ofNat_Int] at hE
    rw [q3, Option.bind_some] at hE
    simp only [Option.bind_some, List.getElem?_cons_zero, List.getElem?_cons_succ, int?_int, AVal.bool?, AVal.ptr?, AVal.sl?, AVal.tup?, AVal.agg?, AVal.ifc?, AVal.fn?, AVal.str?, List.head?_cons, List.tail_cons, List.isEmpty_nil, cond_true, cond_false, Option.isNone_some, Option.isNone_none, Bool.not_true, Bool.not_false, decide_true, decide_false, beq_self_eq_true, bne_self_eq_false, Int.reduceBEq, Int.reduceBNe, Int.cast_ofNat_Int] at hE
    rw [r3, Option.bind_some] at hE
    simp only [Option.bind_some, List.getElem?_cons_zero, List.getElem?_cons_succ, int?_int, AVal.bool?, AVal.ptr?, AVal.sl?, AVal.tup?, AVal.agg?, AVal.ifc?, AVal.fn?, AVal.str?, List.head?_cons, List.tail_cons, List.isEmpty_nil, cond_true, cond_false, Option.isNone_some, Option.isNone_none, Bool.not_true, Bool.not_false, decide_true, decide_false, beq_self_eq_true, bne_self_eq_false, Int.reduceBEq, Int.reduceBNe, Int.cast_ofNat_Int] at hE
    rw [q4, Option.bind_some] at hE
    simp only [Option.bind_some, List.getElem?_cons_zero, List.getElem?_cons_succ, int?_int, AVal.bool?, AVal.ptr?, AVal.sl?, AVal.tup?, AVal.agg?, AVal.ifc?, AVal.fn?, AVal.str?, List.head?_cons, List.tail_cons, List.isEmpty_nil, cond_true, cond_false, Option.isNone_some, Option.isNone_none, Bool.not_true, Bool.not_false, decide_true, decide_false, beq_self_eq_true, bne_self_eq_false, Int.reduceBEq, Int.reduceBNe, Int.cast_ofNat_Int] at hE
    rw [r4, Option.bind_some] at hE
    simp only [Option.bind_some, List.getElem?_cons_zero, List.getElem?_cons_succ, int?_int, AVal.bool?, AVal.ptr?, AVal.sl?, AVal.tup?, AVal.agg?, AVal.ifc?, AVal.fn?, AVal.str?, List.head?_cons, List.tail_cons, List.isEmpty_nil, cond_true, cond_false, Option.isNone_some, Option.isNone_none, Bool.not_true, Bool.not_false, decide_true, decide_false, beq_self_eq_true, bne_self_eq_false, Int.reduceBEq, Int.reduceBNe, Int.cast_ofNat_Int] at hE
    rw [q5, Option.bind_some] at hE
    simp only [Option.bind_some, List.getElem?_cons_zero, List.getElem?_cons_succ, int?_int, AVal.bool?, AVal.ptr?, AVal.sl?, AVal.tup?, AVal.agg?, AVal.ifc?, AVal.fn?, AVal.str?, List.head?_cons, List.tail_cons, List.isEmpty_nil, cond_true, cond_false, Option.isNone_some, Option.isNone_none, Bool.not_true, Bool.not_false, decide_true, decide_false, beq_self_eq_true, bne_self_eq_false, Int.reduceBEq, Int.reduceBNe, Int.cast_ofNat_Int] at hE
    rw [r5, Option.bind_some] at hE
    simp only [Option.bind_some, List.getElem?_cons_zero, List.getElem?_cons_succ, int?_int, AVal.bool?, AVal.ptr?, AVal.sl?, AVal.tup?, AVal.agg?, AVal.ifc?, AVal.fn?, AVal.str?, List.head?_cons, List.tail_cons, List.isEmpty_nil, cond_true, cond_false, Option.isNone_some, Option.isNone_none, Bool.not_true, Bool.not_false, decide_true, decide_false, beq_self_eq_true, bne_self_eq_false, Int.reduceBEq, Int.reduceBNe, Int.cast_ofNat_Int] at hE
    rw [q6, Option.bind_some] at hE
    have l0 : (((v6.2.1 : Nat) : Int) == 0) = true := by rw [l6]; rfl
    simp only [Option.bind_some, List.getElem?_cons_zero, List.getElem?_cons_succ, int?_int, AVal.bool?, AVal.ptr?, AVal.sl?, AVal.tup?, AVal.agg?, AVal.ifc?, AVal.fn?, AVal.str?, List.head?_cons, List.tail_cons, List.isEmpty_nil, cond_true, cond_false, Option.isNone_some, Option.isNone_none, Bool.not_true, Bool.not_false, decide_true, decide_false, beq_self_eq_true, bne_self_eq_false, Int.reduceBEq, Int.reduceBNe, Int.cast_ofNat_Int, l0] at hE
    obtain ⟨M', r⟩ := known_names 256 0 M6 (by omega)
    exact ⟨M', hE.trans r⟩
  | cons w l ih =>
    intro j M hl h6 hg
    have hE := p9_3_eq C prog.meth (some (o, 0)) 6 (.known 6) j M
    have hj : j < 6 := by
      have := congrArg List.length hl
      rw [List.length_drop, show badW.length = 6 from rfl] at this
      simp at this; omega
    have c1 : ((j : Int) < 6) := by omega
    have c0 : (0 : Int) ≤ (j : Int) := by omega
    have c2 : Nat.blt j 6 = true := Mem.blt_iff.2 hj
    have hw : IntKind.wrap .i64 ((j : Int) + 1) = ((j + 1 : Nat) : Int) := by rw [wrap_i64 (by omega) (by omega)]; rfl
    have hx : badW[j]? = some w := by rw [← Nat.add_zero j, ← List.getElem?_drop, hl]; rfl
    have hl' : badW.drop (j + 1) = l := by rw [← List.drop_drop, hl]; rfl
    have hc : M.ldI .u64 o j = some (w : Int) := by rw [ldI_at hg, List.getElem?_map, hx]; rfl
    obtain ⟨hw64, hbad⟩ := badW_all w (List.mem_of_getElem? hx)
    obtain ⟨Ma, ca, _⟩ := Decode_C (M := Mem.empty) hw64
    obtain ⟨op, d, s, o', i, er, hcase⟩ := readC_cases w
    have hz : op = 0 ∧ d = 0 ∧ s = 0 ∧ o' = 0 ∧ i = 0 := by
      rcases hcase with ⟨h, _⟩ | ⟨_, h⟩
      · rw [hbad] at h; cases h
      · exact h
    rw [hz.1, hz.2.1, hz.2.2.1, hz.2.2.2.1, hz.2.2.2.2] at er
    rw [er, hbad] at ca
    obtain ⟨M1, e1, g1, u1, n1⟩ := alloc_at M ⟨[.int .u8 0, .int .u8 0, .int .u8 0, .int .i16 0, .int .i32 0], .fixed⟩
    obtain ⟨M2, s2, g2, n2, b2⟩ := st_at (i := 0) (vs := [.int .u8 0, .int .u8 0, .int .u8 0, .int .i16 0, .int .i32 0]) g1 (by simp)
    have g2' : M2.get M.n = some ⟨[.int .u8 0, .int .u8 0, .int .u8 0, .int .i16 0, .int .i32 0], .fixed⟩ := g2
    have hol := Mem.get_lt hg
    simp only [c1, c0, c2, Option.bind_some, List.getElem?_cons_zero, List.getElem?_cons_succ, int?_int, AVal.bool?, AVal.ptr?, AVal.sl?, AVal.tup?, AVal.agg?, AVal.ifc?, AVal.fn?, AVal.str?, List.head?_cons, List.tail_cons, List.isEmpty_nil, cond_true, cond_false, Option.isNone_some, Option.isNone_none, Bool.not_true, Bool.not_false, decide_true, decide_false, beq_self_eq_true, bne_self_eq_false, Int.reduceBEq, Int.reduceBNe, Int.cast_ofNat_Int, Int.toNat_natCast, slPtr, Nat.mul_one, Nat.zero_add, hc, hw] at hE
    rw [ca, Option.bind_some] at hE
    simp only [Option.bind_some, List.getElem?_cons_zero, List.getElem?_cons_succ, int?_int, AVal.bool?, AVal.ptr?, AVal.sl?, AVal.tup?, AVal.agg?, AVal.ifc?, AVal.fn?, AVal.str?, List.head?_cons, List.tail_cons, List.isEmpty_nil, cond_true, cond_false, Option.isNone_some, Option.isNone_none, Bool.not_true, Bool.not_false, decide_true, decide_false, beq_self_eq_true, bne_self_eq_false, Int.reduceBEq, Int.reduceBNe, Int.cast_ofNat_Int, e1] at hE
    rw [s2, Option.bind_some] at hE
    have e130 : (errI false != 130) = false := rfl
    simp only [ldI_at g2', Option.bind_some, List.getElem?_cons_zero, List.getElem?_cons_succ, int?_int, AVal.bool?, AVal.ptr?, AVal.sl?, AVal.tup?, AVal.agg?, AVal.ifc?, AVal.fn?, AVal.str?, List.head?_cons, List.tail_cons, List.isEmpty_nil, cond_true, cond_false, Option.isNone_some, Option.isNone_none, Bool.not_true, Bool.not_false, decide_true, decide_false, beq_self_eq_true, bne_self_eq_false, Int.reduceBEq, Int.reduceBNe, Int.cast_ofNat_Int, e130, Bool.and_true] at hE
    obtain ⟨M', r⟩ := ih (j + 1) M2 hl' (by omega) (b2.get (u1.get hg) (by omega))
    exact ⟨M', hE.trans r⟩
/-- Instructions that may not be. -/
theorem known_bad {o : Nat} : ∀ (l : List IRow) (j : Nat) (M : Mem), badL.drop j = l → j ≤ 26 → M.get o = some ⟨cellsOf badL, .fixed⟩ → ∃ M', p9_2 C prog.meth (some (o, 0)) 26 (.known 26) j M = some (.bool true, M') := by
  intro l
  induction l with
  | nil =>
    intro j M hl h6 hg
    have hE := p9_2_eq C prog.meth (some (o, 0)) 26 (.known 26) j M
    have : 26 ≤ j := by
      have := congrArg List.length hl
      rw [List.length_drop, show badL.length = 26 from rfl] at this
      simp at this; omega
    have c1 : ¬ ((j : Int) < 26) := by omega
    simp only [c1, Option.bind_some, List.getElem?_cons_zero, List.getElem?_cons_succ, int?_int, AVal.bool?, AVal.ptr?, AVal.sl?, AVal.tup?, AVal.agg?, AVal.ifc?, AVal.fn?, AVal.str?, List.head?_cons, List.tail_cons, List.isEmpty_nil, cond_true, cond_false, Option.isNone_some, Option.isNone_none, Bool.not_true, Bool.not_false, decide_true, decide_false, beq_self_eq_true, bne_self_eq_false, Int.reduceBEq, Int.reduceBNe, Int.cast_ofNat_Int] at hE
    obtain ⟨M', r⟩ := known_badW badW 0 (M.alloc ⟨badW.map fun w : Nat => .int .u64 (w : Int), .fixed⟩) rfl (by omega) (get_alloc_self _ _)
    exact ⟨M', hE.trans r⟩
  | cons w l ih =>
    intro j M hl h6 hg
    have hE := p9_2_eq C prog.meth (some (o, 0)) 26 (.known 26) j M
    have hj : j < 26 := by
      have := congrArg List.length hl
      rw [List.length_drop, show badL.length = 26 from rfl] at this
      simp at this; omega
    have c1 : ((j : Int) < 26) := by omega
    have c0 : (0 : Int) ≤ (j : Int) := by omega
    have c2 : Nat.blt j 26 = true := Mem.blt_iff.2 hj
    have hw : IntKind.wrap .i64 ((j : Int) + 1) = ((j + 1 : Nat) : Int) := by rw [wrap_i64 (by omega) (by omega)]; rfl
    have hx : badL[j]? = some w := by rw [← Nat.add_zero j, ← List.getElem?_drop, hl]; rfl
    have hl' : badL.drop (j + 1) = l := by rw [← List.drop_drop, hl]; rfl
    have hc := row_at hg hx
    obtain ⟨hR, hbad⟩ := bad_all w (List.mem_of_getElem? hx)
    obtain ⟨op, d, s, o', i⟩ := w
    unfold RowR at hR
    unfold rowOk at hbad
    simp only at hR hbad hc
    obtain ⟨Ma, ca, _⟩ := Encode_C (M := Mem.empty) hR
    obtain ⟨Mb, cb, _⟩ := Writes_C (M := Mem.empty) hR
    obtain ⟨Mc, cc, _⟩ := Check_B (M := Mem.empty) hR
    obtain ⟨M2, v, q, u, ho, _⟩ := Reads_C (M := M) hR
    have hr : regs op d s o' i = [] := by unfold regs; rw [hbad]; rfl
    rw [hr] at ho
    have h0 : v.2.1 = 0 := by have := ho.1; simpa using this.symm
    unfold wrI wrB at cb
    rw [hbad] at ca cb cc
    have e130 : (errI false != 130) = false := rfl
    simp only [c1, c0, c2, Option.bind_some, List.getElem?_cons_zero, List.getElem?_cons_succ, int?_int, AVal.bool?, AVal.ptr?, AVal.sl?, AVal.tup?, AVal.agg?, AVal.ifc?, AVal.fn?, AVal.str?, List.head?_cons, List.tail_cons, List.isEmpty_nil, cond_true, cond_false, Option.isNone_some, Option.isNone_none, Bool.not_true, Bool.not_false, decide_true, decide_false, beq_self_eq_true, bne_self_eq_false, Int.reduceBEq, Int.reduceBNe, Int.cast_ofNat_Int, Int.toNat_natCast, slPtr, Nat.zero_add, hc, hw] at hE
    rw [ca, Option.bind_some] at hE
    simp only [Option.bind_some, List.getElem?_cons_zero, List.getElem?_cons_succ, int?_int, AVal.bool?, AVal.ptr?, AVal.sl?, AVal.tup?, AVal.agg?, AVal.ifc?, AVal.fn?, AVal.str?, List.head?_cons, List.tail_cons, List.isEmpty_nil, cond_true, cond_false, Option.isNone_some, Option.isNone_none, Bool.not_true, Bool.not_false, decide_true, decide_false, beq_self_eq_true, bne_self_eq_false, Int.reduceBEq, Int.reduceBNe, Int.cast_ofNat_Int] at hE
    rw [cb, Option.bind_some] at hE
    simp only [Option.bind_some, List.getElem?_cons_zero, List.getElem?_cons_succ, int?_int, AVal.bool?, AVal.ptr?, AVal.sl?, AVal.tup?, AVal.agg?, AVal.ifc?, AVal.fn?, AVal.str?, List.head?_cons, List.tail_cons, List.isEmpty_nil, cond_true, cond_false, Option.isNone_some, Option.isNone_none, Bool.not_true, Bool.not_false, decide_true, decide_false, beq_self_eq_true, bne_self_eq_false, Int.reduceBEq, Int.reduceBNe, Int.cast_ofNat_Int] at hE
    rw [cc, Option.bind_some] at hE
    simp only [Option.bind_some, List.getElem?_cons_zero, List.getElem?_cons_succ, int?_int, AVal.bool?, AVal.ptr?, AVal.sl?, AVal.tup?, AVal.agg?, AVal.ifc?, AVal.fn?, AVal.str?, List.head?_cons, List.tail_cons, List.isEmpty_nil, cond_true, cond_false, Option.isNone_some, Option.isNone_none, Bool.not_true, Bool.not_false, decide_true, decide_false, beq_self_eq_true, bne_self_eq_false, Int.reduceBEq, Int.reduceBNe, Int.cast_ofNat_Int, e130] at hE
    rw [q, Option.bind_some] at hE
    simp only [Option.bind_some, List.getElem?_cons_zero, List.getElem?_cons_succ, int?_int, AVal.bool?, AVal.ptr?, AVal.sl?, AVal.tup?, AVal.agg?, AVal.ifc?, AVal.fn?, AVal.str?, List.head?_cons, List.tail_cons, List.isEmpty_nil, cond_true, cond_false, Option.isNone_some, Option.isNone_none, Bool.not_true, Bool.not_false, decide_true, decide_false, beq_self_eq_true, bne_self_eq_false, Int.reduceBEq, Int.reduceBNe, Int.cast_ofNat_Int, h0] at hE
    obtain ⟨M', r⟩ := ih (j + 1) M2 hl' (by omega) (u.get hg)
    exact ⟨M', hE.trans r⟩
/-- Instructions and their words. -/
theorem known_good {o1 o2 : Nat} : ∀ (l : List (Nat × IRow)) (j : Nat) (M : Mem), goodL.drop j = l → j ≤ 6 → M.get o1 = some ⟨goodL.map fun p => .int .u64 (p.1 : Int), .fixed⟩ → M.get o2 = some ⟨cellsOf (goodL.map Prod.snd), .fixed⟩ → ∃ M', p9_1 C prog.meth (some (o1, 0)) 6 (.known 6) (some (o2, 0)) 6 (.known 6) j M = some (.bool true, M') := by
  intro l
  induction l with
  | nil =>
    intro j M hl h6 hg1 hg2
    have hE := p9_1_eq C prog.meth (some (o1, 0)) 6 (.known 6) (some (o2, 0)) 6 (.known 6) j M
    have : 6 ≤ j := by
      have := congrArg List.length hl
      rw [List.length_drop, show goodL.length = 6 from rfl] at this
      simp at this; omega
    have c1 : ¬ ((j : Int) < 6) := by omega
    simp only [c1, Option.bind_some, List.getElem?_cons_zero, List.getElem?_cons_succ, int?_int, AVal.bool?, AVal.ptr?, AVal.sl?, AVal.tup?, AVal.agg?, AVal.ifc?, AVal.fn?, AVal.str?, List.head?_cons, List.tail_cons, List.isEmpty_nil, cond_true, cond_false, Option.isNone_some, Option.isNone_none, Bool.not_true, Bool.not_false, decide_true, decide_false, beq_self_eq_true, bne_self_eq_false, Int.reduceBEq, Int.reduceBNe, Int.cast_ofNat_Int] at hE
    obtain ⟨M', r⟩ := known_bad badL 0 (M.alloc ⟨cellsOf badL, .fixed⟩) rfl (by omega) (get_alloc_self _ _)
    exact ⟨M', hE.trans r⟩
  | cons w l ih =>
    intro j M hl h6 hg1 hg2
    have hE := p9_1_eq C prog.meth (some (o1, 0)) 6 (.known 6) (some (o2, 0)) 6 (.known 6) j M
    have hj : j < 6 := by
      have := congrArg List.length hl
      rw [List.length_drop, show goodL.length = 6 from rfl] at this
      simp at this; omega
    have c1 : ((j : Int) < 6) := by omega
    have c0 : (0 : Int) ≤ (j : Int) := by omega
    have c2 : Nat.blt j 6 = true := Mem.blt_iff.2 hj
    have hw : IntKind.wrap .i64 ((j : Int) + 1) = ((j + 1 : Nat) : Int) := by rw [wrap_i64 (by omega) (by omega)]; rfl
    have hx : goodL[j]? = some w := by rw [← Nat.add_zero j, ← List.getElem?_drop, hl]; rfl
    have hl' : goodL.drop (j + 1) = l := by rw [← List.drop_drop, hl]; rfl
    obtain ⟨hR, hgood, hword⟩ := good_all w (List.mem_of_getElem? hx)
    obtain ⟨W, op, d, s, o', i⟩ := w
    have hx2 : (goodL.map Prod.snd)[j]? = some (op, d, s, o', i) := by rw [List.getElem?_map, hx]; rfl
    have hc := row_at hg2 hx2
    have hcw : M.ldI .u64 o1 j = some (W : Int) := by rw [ldI_at hg1, List.getElem?_map, hx]; rfl
    unfold RowR at hR
    unfold rowOk at hgood
    simp only at hR hgood hc hword
    obtain ⟨Ma, ca, _⟩ := Encode_C (M := Mem.empty) hR
    obtain ⟨Mb, cb⟩ := Decode_word hR hgood
    rw [hgood, hword] at ca
    rw [hword] at cb
    unfold insnA at cb
    obtain ⟨M1, e1, g1, u1, n1⟩ := alloc_at M ⟨[.int .u8 0, .int .u8 0, .int .u8 0, .int .i16 0, .int .i32 0], .fixed⟩
    obtain ⟨M2, s2, g2, n2, b2⟩ := st_at (i := 0) (vs := [.int .u8 (op : Int), .int .u8 d, .int .u8 s, .int .i16 o', .int .i32 i]) g1 (by simp)
    have g2' : M2.get M.n = some ⟨[.int .u8 (op : Int), .int .u8 d, .int .u8 s, .int .i16 o', .int .i32 i], .fixed⟩ := g2
    have hol1 := Mem.get_lt hg1
    have hol2 := Mem.get_lt hg2
    have hg1' := b2.get (u1.get hg1) (by omega)
    have hg2' := b2.get (u1.get hg2) (by omega)
    have hc' := row_at hg2' hx2
    have hcw' : M2.ldI .u64 o1 j = some (W : Int) := by rw [ldI_at hg1', List.getElem?_map, hx]; rfl
    simp only at hc'
    simp only [c1, c0, c2, Option.bind_some, List.getElem?_cons_zero, List.getElem?_cons_succ, int?_int, AVal.bool?, AVal.ptr?, AVal.sl?, AVal.tup?, AVal.agg?, AVal.ifc?, AVal.fn?, AVal.str?, List.head?_cons, List.tail_cons, List.isEmpty_nil, cond_true, cond_false, Option.isNone_some, Option.isNone_none, Bool.not_true, Bool.not_false, decide_true, decide_false, beq_self_eq_true, bne_self_eq_false, Int.reduceBEq, Int.reduceBNe, Int.cast_ofNat_Int, Int.toNat_natCast, slPtr, Nat.mul_one, Nat.zero_add, hc, hcw, hw] at hE
    rw [ca, Option.bind_some] at hE
    simp only [Option.bind_some, List.getElem?_cons_zero, List.getElem?_cons_succ, int?_int, AVal.bool?, AVal.ptr?, AVal.sl?, AVal.tup?, AVal.agg?, AVal.ifc?, AVal.fn?, AVal.str?, List.head?_cons, List.tail_cons, List.isEmpty_nil, cond_true, cond_false, Option.isNone_some, Option.isNone_none, Bool.not_true, Bool.not_false, decide_true, decide_false, beq_self_eq_true, bne_self_eq_false, Int.reduceBEq, Int.reduceBNe, Int.cast_ofNat_Int, (errI_ne true).2.1] at hE
    rw [cb, Option.bind_some] at hE
    simp only [Option.bind_some, List.getElem?_cons_zero, List.getElem?_cons_succ, int?_int, AVal.bool?, AVal.ptr?, AVal.sl?, AVal.tup?, AVal.agg?, AVal.ifc?, AVal.fn?, AVal.str?, List.head?_cons, List.tail_cons, List.isEmpty_nil, cond_true, cond_false, Option.isNone_some, Option.isNone_none, Bool.not_true, Bool.not_false, decide_true, decide_false, beq_self_eq_true, bne_self_eq_false, Int.reduceBEq, Int.reduceBNe, Int.cast_ofNat_Int, e1] at hE
    rw [s2, Option.bind_some] at hE
    simp only [ldI_at g2', hcw', hc', Option.bind_some, List.getElem?_cons_zero, List.getElem?_cons_succ, int?_int, AVal.bool?, AVal.ptr?, AVal.sl?, AVal.tup?, AVal.agg?, AVal.ifc?, AVal.fn?, AVal.str?, List.head?_cons, List.tail_cons, List.isEmpty_nil, cond_true, cond_false, Option.isNone_some, Option.isNone_none, Bool.not_true, Bool.not_false, decide_true, decide_false, beq_self_eq_true, bne_self_eq_false, Int.reduceBEq, Int.reduceBNe, Int.cast_ofNat_Int, Bool.and_true] at hE
    obtain ⟨M', r⟩ := ih (j + 1) M2 hl' (by omega) hg1' hg2'
    exact ⟨M', hE.trans r⟩
theorem InsnKnown_C (M : Mem) : ∃ M', C 9 [] M = some (.bool true, M') := by
  have hE := p9_0_eq C prog.meth M
  obtain ⟨M1, e1, g1, u1, n1⟩ := alloc_at M ⟨goodL.map fun p => .int .u64 (p.1 : Int), .fixed⟩
  obtain ⟨M2, e2, g2, u2, n2⟩ := alloc_at M1 ⟨cellsOf (goodL.map Prod.snd), .fixed⟩
  obtain ⟨M', r⟩ := known_good goodL 0 M2 rfl (by omega) (u2.get g1) g2
  rw [← e2, ← e1] at r
  exact ⟨M', c9 (hE.trans r)⟩
end
theorem InsnKnown_law : ∀ avs M, M.Whole → okL M.n avs → ShowsArgs M [] avs → ∃ M', C 9 avs M = some (.bool true, M') := by
  intro avs M hM hok h
  simp only [ShowsArgs] at h
  subst h
  exact InsnKnown_C M
end Go.Proofs.Ytpdelhcokcikaaa.M
