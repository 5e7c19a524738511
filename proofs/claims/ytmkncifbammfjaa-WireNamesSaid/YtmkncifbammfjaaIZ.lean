import Derived.Test.YtmkncifbammfjaaIY
import Derived.Test.YtmkncifbammfjaaXLib7
set_option linter.unusedVariables false
set_option linter.unusedSimpArgs false
set_option linter.unnecessarySimpa false
set_option maxRecDepth 100000
namespace Go.Proofs.Ytmkncifbammfjaa.M
open Go.Abs
theorem okB_small {op : Nat} {d s o i : Int} (h : okB op d s o i = true) : d ≤ 9 ∧ s ≤ 9 ∧ op ≤ 36 ∧ op ≠ 0 := by
  unfold okB okS at h
  by_cases hop : op ≤ 36
  rotate_left
  · rw [(rowI_big hop).2] at h; simp at h
  cases hc : Nat.beq (cls op) 0 with
  | true => rw [hc] at h; simp at h
  | false =>
    rw [hc] at h
    by_cases hd : d > 9
    · simp [hd] at h
    · by_cases hs : s > 9
      · simp [hd, hs] at h
      · refine ⟨by omega, by omega, hop, fun e => ?_⟩
        subst e
        cases hc
def wordN (op : Nat) (d s o i : Int) : Nat := 2 ^ 56 * op + 2 ^ 52 * d.toNat + 2 ^ 48 * s.toNat + 2 ^ 32 * (o % 65536).toNat + (i % 4294967296).toNat
section
variable {M : Mem} {op : Nat} {d s o i : Int}
theorem wordN_lt (h : InsnR op d s o i) (hd : d ≤ 9) (hs : s ≤ 9) : wordN op d s o i < 2 ^ 64 := by
  have := h.op; have := h.d; have := h.s
  unfold wordN
  have : (o % 65536).toNat < 65536 := by omega
  have : (i % 4294967296).toNat < 4294967296 := by omega
  omega
theorem or_word (h : InsnR op d s o i) (hd : d ≤ 9) (hs : s ≤ 9) : (IntKind.wrap .u64 ((BitVec.ofInt (IntKind.bits .u64) (IntKind.wrap .u64 ((BitVec.ofInt (IntKind.bits .u64) (IntKind.wrap .u64 ((BitVec.ofInt (IntKind.bits .u64) (IntKind.wrap .u64 ((BitVec.ofInt (IntKind.bits .u64) (IntKind.wrap .u64 ((IntKind.wrap .u64 (op : Int)) * 2 ^ Nat.min 56 (IntKind.bits .u64))) ||| BitVec.ofInt (IntKind.bits .u64) (IntKind.wrap .u64 ((IntKind.wrap .u64 d) * 2 ^ Nat.min 52 (IntKind.bits .u64)))).toNat)) ||| BitVec.ofInt (IntKind.bits .u64) (IntKind.wrap .u64 ((IntKind.wrap .u64 s) * 2 ^ Nat.min 48 (IntKind.bits .u64)))).toNat)) ||| BitVec.ofInt (IntKind.bits .u64) (IntKind.wrap .u64 ((IntKind.wrap .u64 (IntKind.wrap .u16 o)) * 2 ^ Nat.min 32 (IntKind.bits .u64)))).toNat)) ||| BitVec.ofInt (IntKind.bits .u64) (IntKind.wrap .u64 (IntKind.wrap .u32 i))).toNat) : Int) = (wordN op d s o i : Int) := by
  have hop := h.op; have hd0 := h.d; have hs0 := h.s
  obtain ⟨dn, rfl⟩ : ∃ n : Nat, d = (n : Int) := ⟨d.toNat, by omega⟩
  obtain ⟨sn, rfl⟩ : ∃ n : Nat, s = (n : Int) := ⟨s.toNat, by omega⟩
  obtain ⟨on, hon⟩ : ∃ n : Nat, o % 65536 = (n : Int) := ⟨(o % 65536).toNat, by omega⟩
  obtain ⟨im, him⟩ : ∃ n : Nat, i % 4294967296 = (n : Int) := ⟨(i % 4294967296).toNat, by omega⟩
  have p56 : (2 : Int) ^ Nat.min 56 (IntKind.bits .u64) = 72057594037927936 := rfl
  have p52 : (2 : Int) ^ Nat.min 52 (IntKind.bits .u64) = 4503599627370496 := rfl
  have p48 : (2 : Int) ^ Nat.min 48 (IntKind.bits .u64) = 281474976710656 := rfl
  have p32 : (2 : Int) ^ Nat.min 32 (IntKind.bits .u64) = 4294967296 := rfl
  have a1 : IntKind.wrap .u64 (IntKind.wrap .u64 (op : Int) * 72057594037927936) = ((2 ^ 56 * op : Nat) : Int) := by rw [wu64, wu64]; omega
  have a2 : IntKind.wrap .u64 (IntKind.wrap .u64 (dn : Int) * 4503599627370496) = ((2 ^ 52 * dn : Nat) : Int) := by rw [wu64, wu64]; omega
  have a3 : IntKind.wrap .u64 (IntKind.wrap .u64 (sn : Int) * 281474976710656) = ((2 ^ 48 * sn : Nat) : Int) := by rw [wu64, wu64]; omega
  have a4 : IntKind.wrap .u64 (IntKind.wrap .u64 (IntKind.wrap .u16 o) * 4294967296) = ((2 ^ 32 * on : Nat) : Int) := by rw [wu64, wu64, wu16]; omega
  have a5 : IntKind.wrap .u64 (IntKind.wrap .u32 i) = (im : Int) := by rw [wu64, wu32]; omega
  rw [p56, p52, p48, p32, a1, a2, a3, a4, a5]
  rw [orW (k := 56) (x := op) (by omega) (by omega)]
  rw [show 2 ^ 56 * op + 2 ^ 52 * dn = 2 ^ 52 * (16 * op + dn) by omega, orW (k := 52) (by omega) (by omega)]
  rw [show 2 ^ 52 * (16 * op + dn) + 2 ^ 48 * sn = 2 ^ 48 * (256 * op + 16 * dn + sn) by omega, orW (k := 48) (by omega) (by omega)]
  rw [show 2 ^ 48 * (256 * op + 16 * dn + sn) + 2 ^ 32 * on = 2 ^ 32 * (65536 * (256 * op + 16 * dn + sn) + on) by omega, orW (k := 32) (by omega) (by omega)]
  unfold wordN
  rw [hon, him]
  simp only [Int.toNat_natCast]
  omega
theorem Encode_C (h : InsnR op d s o i) : ∃ M', C 24 [.agg [.int .u8 (op : Int), .int .u8 d, .int .u8 s, .int .i16 o, .int .i32 i]] M = some (.tup [.int .u64 (cond (okB op d s o i) (wordN op d s o i : Int) 0), .int .i64 (errI (okB op d s o i))], M') ∧ M.Upto M' := by
  have hE := p24_0_eq C prog.meth op d s o i M
  obtain ⟨M1, e1, g1, u1, n1⟩ := alloc_at M ⟨[.int .u8 (op : Int), .int .u8 d, .int .u8 s, .int .i16 o, .int .i32 i], .fixed⟩
  rw [e1] at hE
  obtain ⟨Mc, c1, _⟩ := Check_B (M := Mem.empty) h
  simp only [ldI_at g1, int?_int, rvs, Int.reduceBEq, Int.reduceBNe, Int.cast_ofNat_Int, c1] at hE
  refine ⟨M1, c24 (hE.trans ?_), u1⟩
  cases hok : okB op d s o i with
  | false => rfl
  | true =>
    have hs := okB_small hok
    have := or_word h hs.1 hs.2.1
    simp only [this]
    rfl
theorem Word_C (h : InsnR op d s o i) (hd : d ≤ 9) (hs : s ≤ 9) : ∃ M', C 41 [.agg [.int .u8 (op : Int), .int .u8 d, .int .u8 s, .int .i16 o, .int .i32 i]] M = some (.int .u64 (wordN op d s o i : Int), M') ∧ M.Upto M' := by
  have hE := p41_0_eq C prog.meth op d s o i M
  obtain ⟨M1, e1, g1, u1, n1⟩ := alloc_at M ⟨[.int .u8 (op : Int), .int .u8 d, .int .u8 s, .int .i16 o, .int .i32 i], .fixed⟩
  rw [e1] at hE
  simp only [ldI_at g1, int?_int, rvs, Int.reduceBEq, Int.reduceBNe, Int.cast_ofNat_Int] at hE
  have hop := h.op; have hd0 := h.d; have hs0 := h.s
  obtain ⟨dn, rfl⟩ : ∃ n : Nat, d = (n : Int) := ⟨d.toNat, by omega⟩
  obtain ⟨sn, rfl⟩ : ∃ n : Nat, s = (n : Int) := ⟨s.toNat, by omega⟩
  obtain ⟨on, hon⟩ : ∃ n : Nat, o % 65536 = (n : Int) := ⟨(o % 65536).toNat, by omega⟩
  obtain ⟨im, him⟩ : ∃ n : Nat, i % 4294967296 = (n : Int) := ⟨(i % 4294967296).toNat, by omega⟩
  have a1 : IntKind.wrap .u64 (IntKind.wrap .u64 (op : Int) * 72057594037927936) = ((2 ^ 56 * op : Nat) : Int) := by rw [wu64, wu64]; omega
  have a2 : IntKind.wrap .u64 (IntKind.wrap .u64 (dn : Int) * 4503599627370496) = ((2 ^ 52 * dn : Nat) : Int) := by rw [wu64, wu64]; omega
  have a3 : IntKind.wrap .u64 (IntKind.wrap .u64 (sn : Int) * 281474976710656) = ((2 ^ 48 * sn : Nat) : Int) := by rw [wu64, wu64]; omega
  have a4 : IntKind.wrap .u64 (IntKind.wrap .u64 (IntKind.wrap .u16 o) * 4294967296) = ((2 ^ 32 * on : Nat) : Int) := by rw [wu64, wu64, wu16]; omega
  have a5 : IntKind.wrap .u64 (IntKind.wrap .u32 i) = (im : Int) := by rw [wu64, wu32]; omega
  have b1 : IntKind.wrap .u64 (((2 ^ 56 * op : Nat) : Int) + ((2 ^ 52 * dn : Nat) : Int)) = ((2 ^ 56 * op + 2 ^ 52 * dn : Nat) : Int) := by rw [wu64]; omega
  have b2 : IntKind.wrap .u64 (((2 ^ 56 * op + 2 ^ 52 * dn : Nat) : Int) + ((2 ^ 48 * sn : Nat) : Int)) = ((2 ^ 56 * op + 2 ^ 52 * dn + 2 ^ 48 * sn : Nat) : Int) := by rw [wu64]; omega
  have b3 : IntKind.wrap .u64 (((2 ^ 56 * op + 2 ^ 52 * dn + 2 ^ 48 * sn : Nat) : Int) + ((2 ^ 32 * on : Nat) : Int)) = ((2 ^ 56 * op + 2 ^ 52 * dn + 2 ^ 48 * sn + 2 ^ 32 * on : Nat) : Int) := by rw [wu64]; omega
  have b4 : IntKind.wrap .u64 (((2 ^ 56 * op + 2 ^ 52 * dn + 2 ^ 48 * sn + 2 ^ 32 * on : Nat) : Int) + (im : Int)) = ((2 ^ 56 * op + 2 ^ 52 * dn + 2 ^ 48 * sn + 2 ^ 32 * on + im : Nat) : Int) := by rw [wu64]; omega
  rw [a1, a2, a3, a4, a5, b1, b2, b3, b4] at hE
  have hw : 2 ^ 56 * op + 2 ^ 52 * dn + 2 ^ 48 * sn + 2 ^ 32 * on + im = wordN op dn sn o i := by
    unfold wordN
    rw [hon, him]
    simp only [Int.toNat_natCast]
  rw [hw] at hE
  exact ⟨M1, c41 hE, u1⟩
theorem REncode_C (h : InsnR op d s o i) : ∃ M', C 27 [.agg [.int .u8 (op : Int), .int .u8 d, .int .u8 s, .int .i16 o, .int .i32 i]] M = some (.tup [.int .u64 (cond (okB op d s o i) (wordN op d s o i : Int) 0), .int .i64 (errI (okB op d s o i))], M') ∧ M.Upto M' := by
  have hE := p27_0_eq C prog.meth op d s o i M
  obtain ⟨M1, e1, g1, u1, n1⟩ := alloc_at M ⟨[.int .u8 (op : Int), .int .u8 d, .int .u8 s, .int .i16 o, .int .i32 i], .fixed⟩
  rw [e1] at hE
  obtain ⟨Mc, c1, _⟩ := RCheck_C (M := Mem.empty) h
  simp only [ldI_at g1, int?_int, rvs, Int.reduceBEq, Int.reduceBNe, Int.cast_ofNat_Int, c1] at hE
  refine ⟨M1, c27 (hE.trans ?_), u1⟩
  cases hok : okB op d s o i with
  | false => rfl
  | true =>
    have hs := okB_small hok
    obtain ⟨M2, c2, _⟩ := Word_C (M := Mem.empty) h hs.1 hs.2.1
    have e0 : (errI true != 0) = false := rfl
    simp only [e0, c2, int?_int, rvs, Int.reduceBEq, Int.reduceBNe, Int.cast_ofNat_Int]
    rfl
def opW (w : Nat) : Nat := w / 2 ^ 56
def dW (w : Nat) : Int := ((w / 2 ^ 52 % 16 : Nat) : Int)
def sW (w : Nat) : Int := ((w / 2 ^ 48 % 16 : Nat) : Int)
def oW (w : Nat) : Int := ((w / 2 ^ 32 : Nat) + 32768 : Int) % 65536 - 32768
def iW (w : Nat) : Int := ((w : Nat) + 2147483648 : Int) % 4294967296 - 2147483648
theorem insnW {w : Nat} (h : w < 2 ^ 64) : InsnR (opW w) (dW w) (sW w) (oW w) (iW w) := by
  unfold opW dW sW oW iW
  exact ⟨by omega, ⟨by omega, by omega⟩, ⟨by omega, by omega⟩, ⟨by omega, by omega⟩, ⟨by omega, by omega⟩⟩
def readC (w : Nat) : List AVal := cond (okB (opW w) (dW w) (sW w) (oW w) (iW w)) [.int .u8 (opW w : Int), .int .u8 (dW w), .int .u8 (sW w), .int .i16 (oW w), .int .i32 (iW w)] [.int .u8 0, .int .u8 0, .int .u8 0, .int .i16 0, .int .i32 0]
theorem Decode_C {w : Nat} (h : w < 2 ^ 64) : ∃ M', C 62 [.int .u64 (w : Int)] M = some (.tup [.agg (readC w), .int .i64 (errI (okB (opW w) (dW w) (sW w) (oW w) (iW w)))], M') ∧ M.Upto M' := by
  have hE := p62_0_eq C prog.meth w M
  obtain ⟨M1, e1, g1, u1, n1⟩ := alloc_at M ⟨[.int .u8 0, .int .u8 0, .int .u8 0, .int .i16 0, .int .i32 0], .fixed⟩
  rw [e1] at hE
  obtain ⟨M2, e2, g2, u2, n2⟩ := alloc_at M1 ⟨[.int .u8 0, .int .u8 0, .int .u8 0, .int .i16 0, .int .i32 0], .fixed⟩
  simp only [e2] at hE
  have p56 : Int.fdiv (w : Int) (2 ^ Nat.min 56 (IntKind.bits .u64)) = ((w / 2 ^ 56 : Nat) : Int) := by
    rw [show (2 : Int) ^ Nat.min 56 (IntKind.bits .u64) = 72057594037927936 from rfl, Int.fdiv_eq_ediv_of_nonneg _ (by omega)]; omega
  have p52 : Int.fdiv (w : Int) (2 ^ Nat.min 52 (IntKind.bits .u64)) = ((w / 2 ^ 52 : Nat) : Int) := by
    rw [show (2 : Int) ^ Nat.min 52 (IntKind.bits .u64) = 4503599627370496 from rfl, Int.fdiv_eq_ediv_of_nonneg _ (by omega)]; omega
  have p48 : Int.fdiv (w : Int) (2 ^ Nat.min 48 (IntKind.bits .u64)) = ((w / 2 ^ 48 : Nat) : Int) := by
    rw [show (2 : Int) ^ Nat.min 48 (IntKind.bits .u64) = 281474976710656 from rfl, Int.fdiv_eq_ediv_of_nonneg _ (by omega)]; omega
  have p32 : Int.fdiv (w : Int) (2 ^ Nat.min 32 (IntKind.bits .u64)) = ((w / 2 ^ 32 : Nat) : Int) := by
    rw [show (2 : Int) ^ Nat.min 32 (IntKind.bits .u64) = 4294967296 from rfl, Int.fdiv_eq_ediv_of_nonneg _ (by omega)]; omega
  have a15 : ∀ x : Nat, x < 2 ^ 64 → IntKind.wrap .u8 (IntKind.wrap .u64 ((BitVec.ofInt (IntKind.bits .u64) (x : Int) &&& BitVec.ofInt (IntKind.bits .u64) 15).toNat)) = ((x % 16 : Nat) : Int) := by
    intro x hx
    have := and_nat x 15 hx (by omega)
    rw [show ((15 : Nat) : Int) = 15 from rfl] at this
    rw [this, show (15 : Nat) = 2 ^ 4 - 1 from rfl, Nat.and_two_pow_sub_one_eq_mod, wu64, wu8]; omega
  have f1 : IntKind.wrap .u8 ((w / 2 ^ 56 : Nat) : Int) = (opW w : Int) := by unfold opW; rw [wu8]; omega
  have f4 : IntKind.wrap .i16 ((w / 2 ^ 32 : Nat) : Int) = oW w := by unfold oW; rw [wi16]
  have f5 : IntKind.wrap .i32 (w : Int) = iW w := by unfold iW; rw [wi32]
  rw [p56, p52, p48, p32, a15 _ (by omega), a15 _ (by omega), f1, f4, f5] at hE
  obtain ⟨M3, s3, g3, n3, b3⟩ := st_at (i := 0) (vs := [.int .u8 (opW w : Int), .int .u8 ((w / 2 ^ 52 % 16 : Nat) : Int), .int .u8 ((w / 2 ^ 48 % 16 : Nat) : Int), .int .i16 (oW w), .int .i32 (iW w)]) g2 (by simp)
  have g3' : M3.get M1.n = some ⟨[.int .u8 (opW w : Int), .int .u8 (dW w), .int .u8 (sW w), .int .i16 (oW w), .int .i32 (iW w)], .fixed⟩ := g3
  obtain ⟨Mc, c1, _⟩ := Check_B (M := Mem.empty) (insnW h)
  simp only [s3, ldI_at g3', int?_int, rvs, Int.reduceBEq, Int.reduceBNe, Int.cast_ofNat_Int, c1] at hE
  have g30 : M3.get M.n = some ⟨[.int .u8 0, .int .u8 0, .int .u8 0, .int .i16 0, .int .i32 0], .fixed⟩ := b3.get (u2.get g1) (by omega)
  unfold readC
  cases hok : okB (opW w) (dW w) (sW w) (oW w) (iW w) with
  | false =>
    have e0 : (errI false != 0) = true := rfl
    obtain ⟨M4, s4, g4, n4, b4⟩ := st_at (i := 0) (vs := [.int .u8 0, .int .u8 0, .int .u8 0, .int .i16 0, .int .i32 0]) g30 (by simp)
    have g4' : M4.get M.n = some ⟨[.int .u8 0, .int .u8 0, .int .u8 0, .int .i16 0, .int .i32 0], .fixed⟩ := g4
    rw [hok] at hE
    simp only [e0, s4, ldI_at g4', int?_int, rvs, Int.reduceBEq, Int.reduceBNe, Int.cast_ofNat_Int] at hE
    refine ⟨M4, c62 hE, ⟨by omega, fun q hq => ?_⟩⟩
    rw [b4.2 q (by omega) (by omega), b3.2 q (by omega) (by omega), u2.2 q (by omega), u1.2 q hq]
  | true =>
    have e0 : (errI true != 0) = false := rfl
    obtain ⟨M4, s4, g4, n4, b4⟩ := st_at (i := 0) (vs := [.int .u8 (opW w : Int), .int .u8 (dW w), .int .u8 (sW w), .int .i16 (oW w), .int .i32 (iW w)]) g30 (by simp)
    have g4' : M4.get M.n = some ⟨[.int .u8 (opW w : Int), .int .u8 (dW w), .int .u8 (sW w), .int .i16 (oW w), .int .i32 (iW w)], .fixed⟩ := g4
    rw [hok] at hE
    simp only [e0, s4, ldI_at g4', int?_int, rvs, Int.reduceBEq, Int.reduceBNe, Int.cast_ofNat_Int] at hE
    refine ⟨M4, c62 hE, ⟨by omega, fun q hq => ?_⟩⟩
    rw [b4.2 q (by omega) (by omega), b3.2 q (by omega) (by omega), u2.2 q (by omega), u1.2 q hq]
theorem RDecode_C {w : Nat} (h : w < 2 ^ 64) : ∃ M', C 37 [.int .u64 (w : Int)] M = some (.tup [.agg (readC w), .int .i64 (errI (okB (opW w) (dW w) (sW w) (oW w) (iW w)))], M') ∧ M.Upto M' := by
  have hE := p37_0_eq C prog.meth w M
  obtain ⟨M1, e1, g1, u1, n1⟩ := alloc_at M ⟨[.int .u8 0, .int .u8 0, .int .u8 0, .int .i16 0, .int .i32 0], .fixed⟩
  rw [e1] at hE
  obtain ⟨M2, e2, g2, u2, n2⟩ := alloc_at M1 ⟨[.int .u8 0, .int .u8 0, .int .u8 0, .int .i16 0, .int .i32 0], .fixed⟩
  simp only [e2] at hE
  have w0 : (0 : Int) ≤ (w : Int) := by omega
  have td : ∀ k : Int, Int.tdiv (w : Int) k = (w : Int) / k := fun k => Int.tdiv_eq_ediv_of_nonneg w0
  have tm : ∀ x k : Int, 0 ≤ x → Int.tmod x k = x % k := fun x k hx => Int.tmod_eq_emod_of_nonneg hx
  have f1 : IntKind.wrap .u8 (IntKind.wrap .u64 (Int.tdiv (w : Int) 72057594037927936)) = (opW w : Int) := by rw [td, wu64, wu8]; unfold opW; omega
  have f2 : IntKind.wrap .u8 (Int.tmod (IntKind.wrap .u64 (Int.tdiv (w : Int) 4503599627370496)) 16) = dW w := by rw [td, wu64, tm _ _ (by omega), wu8]; unfold dW; omega
  have f3 : IntKind.wrap .u8 (Int.tmod (IntKind.wrap .u64 (Int.tdiv (w : Int) 281474976710656)) 16) = sW w := by rw [td, wu64, tm _ _ (by omega), wu8]; unfold sW; omega
  have f4 : IntKind.wrap .i16 (IntKind.wrap .u16 (Int.tmod (IntKind.wrap .u64 (Int.tdiv (w : Int) 4294967296)) 65536)) = oW w := by rw [td, wu64, tm _ _ (by omega), wu16, wi16]; unfold oW; omega
  have f5 : IntKind.wrap .i32 (IntKind.wrap .u32 (Int.tmod (w : Int) 4294967296)) = iW w := by rw [tm _ _ w0, wu32, wi32]; unfold iW; omega
  rw [f1, f2, f3, f4, f5] at hE
  obtain ⟨M3, s3, g3, n3, b3⟩ := st_at (i := 0) (vs := [.int .u8 (opW w : Int), .int .u8 (dW w), .int .u8 (sW w), .int .i16 (oW w), .int .i32 (iW w)]) g2 (by simp)
  have g3' : M3.get M1.n = some ⟨[.int .u8 (opW w : Int), .int .u8 (dW w), .int .u8 (sW w), .int .i16 (oW w), .int .i32 (iW w)], .fixed⟩ := g3
  obtain ⟨Mc, c1, _⟩ := RCheck_C (M := Mem.empty) (insnW h)
  simp only [s3, ldI_at g3', int?_int, rvs, Int.reduceBEq, Int.reduceBNe, Int.cast_ofNat_Int, c1] at hE
  have g30 : M3.get M.n = some ⟨[.int .u8 0, .int .u8 0, .int .u8 0, .int .i16 0, .int .i32 0], .fixed⟩ := b3.get (u2.get g1) (by omega)
  unfold readC
  cases hok : okB (opW w) (dW w) (sW w) (oW w) (iW w) with
  | false =>
    have e0 : (errI false != 0) = true := rfl
    obtain ⟨M4, s4, g4, n4, b4⟩ := st_at (i := 0) (vs := [.int .u8 0, .int .u8 0, .int .u8 0, .int .i16 0, .int .i32 0]) g30 (by simp)
    have g4' : M4.get M.n = some ⟨[.int .u8 0, .int .u8 0, .int .u8 0, .int .i16 0, .int .i32 0], .fixed⟩ := g4
    rw [hok] at hE
    simp only [e0, s4, ldI_at g4', int?_int, rvs, Int.reduceBEq, Int.reduceBNe, Int.cast_ofNat_Int] at hE
    refine ⟨M4, c37 hE, ⟨by omega, fun q hq => ?_⟩⟩
    rw [b4.2 q (by omega) (by omega), b3.2 q (by omega) (by omega), u2.2 q (by omega), u1.2 q hq]
  | true =>
    have e0 : (errI true != 0) = false := rfl
    obtain ⟨M4, s4, g4, n4, b4⟩ := st_at (i := 0) (vs := [.int .u8 (opW w : Int), .int .u8 (dW w), .int .u8 (sW w), .int .i16 (oW w), .int .i32 (iW w)]) g30 (by simp)
    have g4' : M4.get M.n = some ⟨[.int .u8 (opW w : Int), .int .u8 (dW w), .int .u8 (sW w), .int .i16 (oW w), .int .i32 (iW w)], .fixed⟩ := g4
    rw [hok] at hE
    simp only [e0, s4, ldI_at g4', int?_int, rvs, Int.reduceBEq, Int.reduceBNe, Int.cast_ofNat_Int] at hE
    refine ⟨M4, c37 hE, ⟨by omega, fun q hq => ?_⟩⟩
    rw [b4.2 q (by omega) (by omega), b3.2 q (by omega) (by omega), u2.2 q (by omega), u1.2 q hq]
theorem word_back (h : InsnR op d s o i) (hd : d ≤ 9) (hs : s ≤ 9) : opW (wordN op d s o i) = op ∧ dW (wordN op d s o i) = d ∧ sW (wordN op d s o i) = s ∧ oW (wordN op d s o i) = o ∧ iW (wordN op d s o i) = i := by
  have hop := h.op; have hd0 := h.d; have hs0 := h.s; have ho := h.o; have hi := h.i
  unfold opW dW sW oW iW wordN
  refine ⟨by omega, by omega, by omega, by omega, by omega⟩
theorem back_word {w : Nat} (h : w < 2 ^ 64) : wordN (opW w) (dW w) (sW w) (oW w) (iW w) = w := by
  unfold opW dW sW oW iW wordN
  omega
end
end Go.Proofs.Ytmkncifbammfjaa.M
