/- The package insn: names; whether the package is awake. -/
import Derived.Test.YtpdelhcokcikaaaIR
set_option linter.unusedVariables false
set_option linter.unusedSimpArgs false
set_option linter.unnecessarySimpa false
set_option maxRecDepth 100000
namespace Go.Proofs.Ytpdelhcokcikaaa.M
open Go.Abs

theorem Name_C (n : Int) (M : Mem) : C 24 [.int .u8 n] M = some (.str (nameB n), M) := by
  refine whole_out prog _ rfl ?_
  unfold D
  simp only [show Nat.beq 24 24 = true from rfl, cond_true]
/-- A name's number. -/
def opF (s : ByteArray) (l : List (ByteArray × Int)) : Option (ByteArray × Int) := l.find? fun p => s.data.toList == p.1.data.toList
def opV (q : Option (ByteArray × Int)) : List AVal := [.int .u8 (match q with | some p => p.2 | none => 0), .bool q.isSome]
theorem find_words (s : ByteArray) : ∀ l : List (ByteArray × Int), findA (.str s) (l.flatMap fun p => [.str p.1, .int .u8 p.2]) = (opF s l).map fun p => .int .u8 p.2
  | [] => rfl
  | p :: l => by
    simp only [List.flatMap_cons, List.cons_append, List.nil_append, findA, keyB]
    unfold opF
    rw [List.find?_cons]
    cases s.data.toList == p.1.data.toList
    · exact find_words s l
    · rfl
theorem Op_C (s : ByteArray) (M : Mem) : ∃ M', C 22 [.str s] M = some (.tup (opV (opF s wordsL)), M') ∧ M.Upto M' := by
  obtain ⟨M1, h1, h2, h3, h4⟩ := words_p C prog.meth M
  have hw : C 37 [] M = some (.map (some M.n), M1) := c37 h1
  have hE := p22_0_eq C prog.meth s M
  have he : ((⟨wordCells, .map .str⟩ : AObj).ents .str) = some wordCells := rfl
  have hf : findA (.str s) wordCells = (opF s wordsL).map fun p => .int .u8 p.2 := find_words s wordsL
  simp only [hw, Option.bind_some, List.getElem?_cons_zero, List.getElem?_cons_succ, int?_int, AVal.bool?, AVal.ptr?, AVal.sl?, AVal.tup?, AVal.agg?, AVal.ifc?, AVal.fn?, AVal.str?, List.head?_cons, List.tail_cons, List.isEmpty_nil, cond_true, cond_false, Option.isNone_some, Option.isNone_none, Bool.not_true, Bool.not_false, decide_true, decide_false, beq_self_eq_true, bne_self_eq_false, Int.reduceBEq, Int.reduceBNe, Int.cast_ofNat_Int, AVal.map?, lookP, h2, he, hf] at hE
  refine ⟨M1, c22 (hE.trans ?_), ⟨by omega, h4⟩⟩
  unfold opV
  cases opF s wordsL <;> rfl
theorem names_C (M : Mem) : C 38 [] M = some (.sl (some (M.n, 0)) 37 (.known 37), M.alloc ⟨.str ⟨#[]⟩ :: namesL.map .str, .fixed⟩) := by
  refine c38 ?_
  rw [p38_0_eq]
  rfl
theorem namesL_length : namesL.length = 36 := rfl
theorem rop_loop (s : ByteArray) : ∀ (l : List ByteArray) (k : Nat) (M : Mem), 1 ≤ k → namesL.drop (k - 1) = l → k ≤ 37 → ∃ M', p23_1 C prog.meth s k M = some (.tup (opV (opF s (pairsFrom k l))), M') ∧ M.Upto M' := by
  intro l
  induction l with
  | nil =>
    intro k M hk hl h37
    have hE := p23_1_eq C prog.meth s k M
    have : 36 ≤ k - 1 := by
      have := congrArg List.length hl
      rw [List.length_drop, namesL_length] at this
      simp at this; omega
    have h1 : ¬ ((k : Int) < 37) := by omega
    simp only [names_C, Option.bind_some, List.getElem?_cons_zero, List.getElem?_cons_succ, int?_int, AVal.bool?, AVal.ptr?, AVal.sl?, AVal.tup?, AVal.agg?, AVal.ifc?, AVal.fn?, AVal.str?, List.head?_cons, List.tail_cons, List.isEmpty_nil, cond_true, cond_false, Option.isNone_some, Option.isNone_none, Bool.not_true, Bool.not_false, decide_true, decide_false, beq_self_eq_true, bne_self_eq_false, Int.reduceBEq, Int.reduceBNe, Int.cast_ofNat_Int, h1] at hE
    exact ⟨_, hE, Mem.Upto.alloc _ _⟩
  | cons x l ih =>
    intro k M hk hl h37
    have hE := p23_1_eq C prog.meth s k M
    have hk36 : k ≤ 36 := by
      have := congrArg List.length hl
      rw [List.length_drop, namesL_length] at this
      simp at this; omega
    have h1 : ((k : Int) < 37) := by omega
    have h0 : (0 : Int) ≤ (k : Int) := by omega
    have h2 : Nat.blt k 37 = true := Mem.blt_iff.2 (by omega)
    have hw : IntKind.wrap .i64 ((k : Int) + 1) = ((k + 1 : Nat) : Int) := by rw [wrap_i64 (by omega) (by omega)]; rfl
    have hw8 : IntKind.wrap .u8 (k : Int) = (k : Int) := by rw [wu8]; omega
    have hx : namesL[k - 1]? = some x := by rw [← Nat.add_zero (k - 1), ← List.getElem?_drop, hl]; rfl
    have hl' : namesL.drop (k + 1 - 1) = l := by
      have : k + 1 - 1 = k - 1 + 1 := by omega
      rw [this, ← List.drop_drop, hl]; rfl
    obtain ⟨M1, e1, g1, u1, n1⟩ := alloc_at M ⟨.str ⟨#[]⟩ :: namesL.map .str, .fixed⟩
    obtain ⟨M2, e2, g2, u2, n2⟩ := alloc_at M1 ⟨.str ⟨#[]⟩ :: namesL.map .str, .fixed⟩
    have hc : M2.ldS M1.n (0 + k * 1) = some x := by
      rw [ldS_at g2]
      have : 0 + k * 1 = (k - 1) + 1 := by omega
      rw [this, List.getElem?_cons_succ, List.getElem?_map, hx]; rfl
    have hN := names_C M
    have hN1 := names_C M1
    rw [e1] at hN
    rw [e2] at hN1
    have hlp : ∀ (q : Option (Nat × Nat)), True := fun _ => trivial
    simp only [hN, hN1, Option.bind_some, List.getElem?_cons_zero, List.getElem?_cons_succ, int?_int, AVal.bool?, AVal.ptr?, AVal.sl?, AVal.tup?, AVal.agg?, AVal.ifc?, AVal.fn?, AVal.str?, List.head?_cons, List.tail_cons, List.isEmpty_nil, cond_true, cond_false, Option.isNone_some, Option.isNone_none, Bool.not_true, Bool.not_false, decide_true, decide_false, beq_self_eq_true, bne_self_eq_false, Int.reduceBEq, Int.reduceBNe, Int.cast_ofNat_Int, h1, h0, h2, slPtr, Int.toNat_natCast, hc, hw, hw8] at hE
    rw [ByteArray.toList_eq, ByteArray.toList_eq] at hE
    simp only [pairsFrom]
    unfold opF
    rw [List.find?_cons]
    cases hb : s.data.toList == x.data.toList with
    | true =>
      have hb' : (x.data.toList == s.data.toList) = true := by simpa using (eq_of_beq hb).symm
      rw [hb', cond_true] at hE
      exact ⟨M2, hE, u1.trans u2⟩
    | false =>
      have hb' : (x.data.toList == s.data.toList) = false := by
        cases h : (x.data.toList == s.data.toList) with
        | false => rfl
        | true => rw [eq_of_beq h] at hb; simp at hb
      rw [hb', cond_false] at hE
      obtain ⟨M3, q1, q2⟩ := ih (k + 1) M2 (by omega) hl' (by omega)
      exact ⟨M3, hE.trans q1, (u1.trans u2).trans q2⟩
theorem ROp_C (s : ByteArray) (M : Mem) : ∃ M', C 23 [.str s] M = some (.tup (opV (opF s wordsL)), M') ∧ M.Upto M' := by
  obtain ⟨M', h1, h2⟩ := rop_loop s namesL 1 M (Nat.le_refl _) rfl (by omega)
  exact ⟨M', c23 ((p23_0_eq _ _ _ _).trans h1), h2⟩
theorem words_small : ∀ p ∈ wordsL, 1 ≤ p.2 ∧ p.2 ≤ 36 := by
  have : decide (∀ p ∈ wordsL, 1 ≤ p.2 ∧ p.2 ≤ 36) = true := by kernel_rfl
  exact of_decide_eq_true this
theorem RName_C {n : Int} (h0 : 0 ≤ n) (h1 : n < 256) (M : Mem) : ∃ M', C 25 [.int .u8 n] M = some (.str (nameB n), M') ∧ M.Upto M' := by
  have hE := p25_0_eq C prog.meth n M
  have hw : IntKind.wrap .i64 n = n := wrap_i64 (by omega) (by omega)
  obtain ⟨M1, e1, g1, u1, n1⟩ := alloc_at M ⟨.str ⟨#[]⟩ :: namesL.map .str, .fixed⟩
  obtain ⟨M2, e2, g2, u2, n2⟩ := alloc_at M1 ⟨.str ⟨#[]⟩ :: namesL.map .str, .fixed⟩
  have hN := names_C M
  have hN1 := names_C M1
  rw [e1] at hN
  rw [e2] at hN1
  obtain ⟨k, rfl⟩ : ∃ k : Nat, n = (k : Int) := ⟨n.toNat, by omega⟩
  simp only [hN, hN1, Option.bind_some, List.getElem?_cons_zero, List.getElem?_cons_succ, int?_int, AVal.bool?, AVal.ptr?, AVal.sl?, AVal.tup?, AVal.agg?, AVal.ifc?, AVal.fn?, AVal.str?, List.head?_cons, List.tail_cons, List.isEmpty_nil, cond_true, cond_false, Option.isNone_some, Option.isNone_none, Bool.not_true, Bool.not_false, decide_true, decide_false, beq_self_eq_true, bne_self_eq_false, Int.reduceBEq, Int.reduceBNe, Int.cast_ofNat_Int, hw] at hE
  by_cases h : (k : Int) ≥ 37
  · have he : nameB k = ⟨#[]⟩ := nameB_none (fun s hs => by have := words_small _ hs; simp only at this; omega)
    simp only [h, decide_true, cond_true] at hE
    rw [he]
    exact ⟨M1, c25 hE, u1⟩
  · have h2 : Nat.blt k 37 = true := Mem.blt_iff.2 (by omega)
    have hc : M2.ldS M1.n (0 + k * 1) = some (nameB k) := by
      rw [ldS_at g2]
      have : k = 0 ∨ k = 1 ∨ k = 2 ∨ k = 3 ∨ k = 4 ∨ k = 5 ∨ k = 6 ∨ k = 7 ∨ k = 8 ∨ k = 9 ∨ k = 10 ∨ k = 11 ∨ k = 12 ∨ k = 13 ∨ k = 14 ∨ k = 15 ∨ k = 16 ∨ k = 17 ∨ k = 18 ∨ k = 19 ∨ k = 20 ∨ k = 21 ∨ k = 22 ∨ k = 23 ∨ k = 24 ∨ k = 25 ∨ k = 26 ∨ k = 27 ∨ k = 28 ∨ k = 29 ∨ k = 30 ∨ k = 31 ∨ k = 32 ∨ k = 33 ∨ k = 34 ∨ k = 35 ∨ k = 36 := by omega
      rcases this with rfl | rfl | rfl | rfl | rfl | rfl | rfl | rfl | rfl | rfl | rfl | rfl | rfl | rfl | rfl | rfl | rfl | rfl | rfl | rfl | rfl | rfl | rfl | rfl | rfl | rfl | rfl | rfl | rfl | rfl | rfl | rfl | rfl | rfl | rfl | rfl | rfl <;> rfl
    simp only [h, h0, h2, slPtr, decide_true, decide_false, cond_true, cond_false, Int.toNat_natCast, hc, Option.bind_some] at hE
    exact ⟨M2, c25 hE, u1.trans u2⟩
theorem w_ok : okB 18 2 7 14 2 = true := by kernel_rfl
theorem w_word : wordN 18 2 7 14 2 = 1308014276903960578 := by unfold wordN; decide
theorem w_back : opW 1308014276903960578 = 18 ∧ dW 1308014276903960578 = 2 ∧ sW 1308014276903960578 = 7 ∧ oW 1308014276903960578 = 14 ∧ iW 1308014276903960578 = 2 := by
  have := word_back (op := 18) (d := 2) (s := 7) (o := 14) (i := 2) ⟨by omega, by omega, by omega, by omega, by omega⟩ (by omega) (by omega)
  rw [w_word] at this
  exact this
theorem w_op : opV (opF ⟨#[106, 103, 116]⟩ wordsL) = [.int .u8 31, .bool true] := by kernel_rfl
theorem w_regs : regs 18 2 7 14 2 = [7] := by kernel_rfl
theorem w_name : nameB 36 = ⟨#[101, 120, 105, 116]⟩ := by kernel_rfl
theorem w_wr : wrI 18 2 7 14 2 = 2 ∧ wrB 18 2 7 14 2 = true := ⟨by kernel_rfl, by kernel_rfl⟩
/-- The package is awake. -/
theorem works_M (M0 : Mem) : ∃ M', C 14 [] M0 = some (.bool true, M') := by
  have hE := p14_0_eq C prog.meth M0
  have hR : InsnR 18 2 7 14 2 := ⟨by omega, by omega, by omega, by omega, by omega⟩
  have hok := w_ok
  have hword := w_word
  obtain ⟨M1, e1, g1, u1, n1⟩ := alloc_at M0 ⟨[.int .u8 0, .int .u8 0, .int .u8 0, .int .i16 0, .int .i32 0], .fixed⟩
  rw [e1] at hE
  obtain ⟨M2, s2, g2, n2, b2⟩ := st_at (i := 0) (vs := [.int .u8 18, .int .u8 2, .int .u8 7, .int .i16 14, .int .i32 2]) g1 (by simp)
  have g2' : M2.get M0.n = some ⟨[.int .u8 18, .int .u8 2, .int .u8 7, .int .i16 14, .int .i32 2], .fixed⟩ := g2
  obtain ⟨Ma, ca, _⟩ := Encode_C (M := Mem.empty) hR
  obtain ⟨Mb, cb, _⟩ := Decode_C (M := Mem.empty) (w := 1308014276903960578) (by omega)
  have eR : readC 1308014276903960578 = [.int .u8 18, .int .u8 2, .int .u8 7, .int .i16 14, .int .i32 2] := by unfold readC; rw [w_back.1, w_back.2.1, w_back.2.2.1, w_back.2.2.2.1, w_back.2.2.2.2, w_ok]; rfl
  have eO : okB (opW 1308014276903960578) (dW 1308014276903960578) (sW 1308014276903960578) (oW 1308014276903960578) (iW 1308014276903960578) = true := by rw [w_back.1, w_back.2.1, w_back.2.2.1, w_back.2.2.2.1, w_back.2.2.2.2, w_ok]
  rw [eR, eO] at cb
  rw [hok, hword] at ca
  obtain ⟨M3, e3, g3, u3, n3⟩ := alloc_at M2 ⟨[.int .u8 0, .int .u8 0, .int .u8 0, .int .i16 0, .int .i32 0], .fixed⟩
  obtain ⟨M4, s4, g4, n4, b4⟩ := st_at (i := 0) (vs := [.int .u8 18, .int .u8 2, .int .u8 7, .int .i16 14, .int .i32 2]) g3 (by simp)
  have g4' : M4.get M2.n = some ⟨[.int .u8 18, .int .u8 2, .int .u8 7, .int .i16 14, .int .i32 2], .fixed⟩ := g4
  have g40 : M4.get M0.n = some ⟨[.int .u8 18, .int .u8 2, .int .u8 7, .int .i16 14, .int .i32 2], .fixed⟩ := b4.get (u3.get g2') (by omega)
  obtain ⟨Mw, cw, _⟩ := Writes_C (M := Mem.empty) hR
  obtain ⟨M5, v, cr, u5, ho, _⟩ := Reads_C (M := M4) hR
  obtain ⟨Mo, co, _⟩ := Op_C ⟨#[106, 103, 116]⟩ Mem.empty
  have eo := w_op
  rw [eo] at co
  have er := w_regs
  rw [er] at ho
  obtain ⟨M6, e6, g6, u6, n6⟩ := alloc_at M5 ⟨[.int .i64 7], .fixed⟩
  have h6 : M6.ints .i64 (some (M5.n, 0)) 1 (.known 1) = some [7] := ints_whole (xs := [7]) (k := .i64) g6 (by simp) rfl
  have hq := EqInts_C (ho.upto u6).ints h6 (by have := ho.1; simp at this; omega)
  rw [w_wr.1, w_wr.2] at cw
  have en := w_name
  have e18 : ((18 : Nat) : Int) = 18 := rfl
  rw [e18] at ca cw cr
  have nn := Name_C 36 Mem.empty
  rw [en] at nn
  have z1 : errI true = 0 := rfl
  rw [z1] at ca cb
  have ecb : ((1308014276903960578 : Nat) : Int) = 1308014276903960578 := Int.cast_ofNat_Int
  rw [ecb] at cb ca
  generalize (1308014276903960578 : Int) = W at hE ca cb
  generalize (⟨#[101, 120, 105, 116]⟩ : ByteArray) = E at hE nn
  generalize (⟨#[106, 103, 116]⟩ : ByteArray) = G at hE co
  simp only [s2, ldI_at g2', Option.bind_some, List.getElem?_cons_zero, List.getElem?_cons_succ, int?_int, AVal.bool?, AVal.ptr?, AVal.sl?, AVal.tup?, AVal.agg?, AVal.ifc?, AVal.fn?, AVal.str?, List.head?_cons, List.tail_cons, List.isEmpty_nil, cond_true, cond_false, Option.isNone_some, Option.isNone_none, Bool.not_true, Bool.not_false, decide_true, decide_false, beq_self_eq_true, bne_self_eq_false, Int.reduceBEq, Int.reduceBNe, Int.cast_ofNat_Int] at hE
  rw [ca, Option.bind_some] at hE
  simp only [Option.bind_some, List.getElem?_cons_zero, List.getElem?_cons_succ, int?_int, AVal.bool?, AVal.ptr?, AVal.sl?, AVal.tup?, AVal.agg?, AVal.ifc?, AVal.fn?, AVal.str?, List.head?_cons, List.tail_cons, List.isEmpty_nil, cond_true, cond_false, Option.isNone_some, Option.isNone_none, Bool.not_true, Bool.not_false, decide_true, decide_false, beq_self_eq_true, bne_self_eq_false, Int.reduceBEq, Int.reduceBNe, Int.cast_ofNat_Int] at hE
  rw [cb, Option.bind_some] at hE
  simp only [Option.bind_some, List.getElem?_cons_zero, List.getElem?_cons_succ, int?_int, AVal.bool?, AVal.ptr?, AVal.sl?, AVal.tup?, AVal.agg?, AVal.ifc?, AVal.fn?, AVal.str?, List.head?_cons, List.tail_cons, List.isEmpty_nil, cond_true, cond_false, Option.isNone_some, Option.isNone_none, Bool.not_true, Bool.not_false, decide_true, decide_false, beq_self_eq_true, bne_self_eq_false, Int.reduceBEq, Int.reduceBNe, Int.cast_ofNat_Int, e3] at hE
  rw [s4, Option.bind_some] at hE
  simp only [ldI_at g40, ldI_at g4', Option.bind_some, List.getElem?_cons_zero, List.getElem?_cons_succ, int?_int, AVal.bool?, AVal.ptr?, AVal.sl?, AVal.tup?, AVal.agg?, AVal.ifc?, AVal.fn?, AVal.str?, List.head?_cons, List.tail_cons, List.isEmpty_nil, cond_true, cond_false, Option.isNone_some, Option.isNone_none, Bool.not_true, Bool.not_false, decide_true, decide_false, beq_self_eq_true, bne_self_eq_false, Int.reduceBEq, Int.reduceBNe, Int.cast_ofNat_Int] at hE
  rw [cw, Option.bind_some] at hE
  simp only [Option.bind_some, List.getElem?_cons_zero, List.getElem?_cons_succ, int?_int, AVal.bool?, AVal.ptr?, AVal.sl?, AVal.tup?, AVal.agg?, AVal.ifc?, AVal.fn?, AVal.str?, List.head?_cons, List.tail_cons, List.isEmpty_nil, cond_true, cond_false, Option.isNone_some, Option.isNone_none, Bool.not_true, Bool.not_false, decide_true, decide_false, beq_self_eq_true, bne_self_eq_false, Int.reduceBEq, Int.reduceBNe, Int.cast_ofNat_Int] at hE
  rw [co, Option.bind_some] at hE
  simp only [Option.bind_some, List.getElem?_cons_zero, List.getElem?_cons_succ, int?_int, AVal.bool?, AVal.ptr?, AVal.sl?, AVal.tup?, AVal.agg?, AVal.ifc?, AVal.fn?, AVal.str?, List.head?_cons, List.tail_cons, List.isEmpty_nil, cond_true, cond_false, Option.isNone_some, Option.isNone_none, Bool.not_true, Bool.not_false, decide_true, decide_false, beq_self_eq_true, bne_self_eq_false, Int.reduceBEq, Int.reduceBNe, Int.cast_ofNat_Int, Bool.and_true] at hE
  rw [cr, Option.bind_some] at hE
  simp only [Option.bind_some, List.getElem?_cons_zero, List.getElem?_cons_succ, int?_int, AVal.bool?, AVal.ptr?, AVal.sl?, AVal.tup?, AVal.agg?, AVal.ifc?, AVal.fn?, AVal.str?, List.head?_cons, List.tail_cons, List.isEmpty_nil, cond_true, cond_false, Option.isNone_some, Option.isNone_none, Bool.not_true, Bool.not_false, decide_true, decide_false, beq_self_eq_true, bne_self_eq_false, Int.reduceBEq, Int.reduceBNe, Int.cast_ofNat_Int, e6] at hE
  rw [hq, Option.bind_some] at hE
  simp only [Option.bind_some, List.getElem?_cons_zero, List.getElem?_cons_succ, int?_int, AVal.bool?, AVal.ptr?, AVal.sl?, AVal.tup?, AVal.agg?, AVal.ifc?, AVal.fn?, AVal.str?, List.head?_cons, List.tail_cons, List.isEmpty_nil, cond_true, cond_false, Option.isNone_some, Option.isNone_none, Bool.not_true, Bool.not_false, decide_true, decide_false, beq_self_eq_true, bne_self_eq_false, Int.reduceBEq, Int.reduceBNe, Int.cast_ofNat_Int] at hE
  rw [nn, Option.bind_some] at hE
  simp only [Option.bind_some, List.getElem?_cons_zero, List.getElem?_cons_succ, int?_int, AVal.bool?, AVal.ptr?, AVal.sl?, AVal.tup?, AVal.agg?, AVal.ifc?, AVal.fn?, AVal.str?, List.head?_cons, List.tail_cons, List.isEmpty_nil, cond_true, cond_false, Option.isNone_some, Option.isNone_none, Bool.not_true, Bool.not_false, decide_true, decide_false, beq_self_eq_true, bne_self_eq_false, Int.reduceBEq, Int.reduceBNe, Int.cast_ofNat_Int] at hE
  exact ⟨_, c14 hE⟩
theorem works_C : ∃ M', C 14 [] Mem.empty = some (.bool true, M') := works_M _
end Go.Proofs.Ytpdelhcokcikaaa.M
