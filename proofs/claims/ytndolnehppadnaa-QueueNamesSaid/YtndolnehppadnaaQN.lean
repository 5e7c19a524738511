/- QueueNames: a closed statement, by what the laws' functions answer. -/
import Derived.Test.YtndolnehppadnaaQO
import Derived.Test.YtndolnehppadnaaXLib7
import Derived.Test.YtndolnehppadnaaXLib5
set_option linter.unusedVariables false
set_option linter.unusedSimpArgs false
set_option linter.unnecessarySimpa false
set_option maxRecDepth 100000
namespace Go.Proofs.Ytndolnehppadnaa.M
open Go.Abs

def encD (x : Bool × SlV) : List AVal := [.bool x.1, .sl x.2.1 x.2.2.1 x.2.2.2]
theorem encD2 : Enc 2 encD := fun _ => rfl
/-- A row of calls that is being made. -/
structure Dos (M0 M : Mem) (a : Option (Nat × Nat)) (l : Nat) (c : Cap) (xs : List (Bool × SlV)) : Prop where
  up : M0.Upto M
  row : Row M 2 encD a l c xs
  fp : ∀ o ∈ fpOf a, M0.n ≤ o ∧ o < M.n
  el : ∀ x ∈ xs, x.2.2.1 ≤ 2049 ∧ ∃ bs, M.bytesAt x.2 = some bs ∧ (∀ y ∈ bs, (Lit.int .u8 y).wf = true) ∧ ∀ o ∈ fpS x.2, o ∉ fpOf a
section
variable {M0 M M' : Mem} {a : Option (Nat × Nat)} {l : Nat} {c : Cap} {xs : List (Bool × SlV)}
theorem Dos.nil (M : Mem) : Dos M M none 0 (.known 0) [] := ⟨Mem.Upto.refl M, Row.nil _ _ _, by simp [fpOf], by simp⟩
theorem Dos.rows (h : Dos M0 M a l c xs) : QRows M a l c := by
  intro i hi
  have hlen := h.row.length
  have hm : xs[i]'(by omega) ∈ xs := List.getElem_mem _
  obtain ⟨p, hp, _⟩ := h.row.sl.get encD2 (by omega) hi
  obtain ⟨h1, bs, h2, h3, h4⟩ := h.el _ hm
  refine ⟨p, (xs[i]'(by omega)).1, (xs[i]'(by omega)).2.1, (xs[i]'(by omega)).2.2.1, (xs[i]'(by omega)).2.2.2, bs, hp, h2, by simp [reachBytes]; omega, h3, fun M' hu f hf => ?_⟩
  obtain ⟨p', hp', hg⟩ := (h.row.upto encD2 (by omega) hu).sl.get encD2 (by omega) hi
  rw [hp] at hp'
  obtain rfl := Option.some.inj hp'
  have := hg f hf
  simpa [encD] using this
/-- What has come about elsewhere changes nothing. -/
theorem Dos.more (h : Dos M0 M a l c xs) (hu : M.Upto M') : Dos M0 M' a l c xs :=
  ⟨h.up.trans hu, h.row.upto encD2 (by omega) hu, fun o ho => ⟨(h.fp o ho).1, Nat.lt_of_lt_of_le (h.fp o ho).2 hu.1⟩, fun x hx => by
    obtain ⟨h1, bs, h2, h3, h4⟩ := h.el x hx
    exact ⟨h1, bs, by rw [bytesAt_same (fun o ho => hu.2 o (bytesAt_lt h2 o ho))]; exact h2, h3, h4⟩⟩
/-- More rows, which lie in an object of their own. -/
theorem Dos.app {bytes : Nat} {a' : Option (Nat × Nat)} {l' : Nat} {c' : Cap} {ys : List (Bool × SlV)} (h : Dos M0 M a l c xs) (hy : Sl M 2 encD a' l' c' ys) (h0 : 0 < l') (hb : (l + l') * bytes ≤ 2 ^ 47)
    (hel : ∀ x ∈ ys, x.2.2.1 ≤ 2049 ∧ ∃ bs, M.bytesAt x.2 = some bs ∧ (∀ y ∈ bs, (Lit.int .u8 y).wf = true) ∧ ∀ o ∈ fpS x.2, o ∉ fpOf a) :
    ∃ M', (∀ {β : Type} (K : Option (Nat × Nat) → Nat → Cap → Mem → Option β), appK false 2 bytes M a l c (.sl a' l' c') K = K (some (M.n, 0)) (l + l') (.unk 0) M') ∧ Dos M0 M' (some (M.n, 0)) (l + l') (.unk 0) (xs ++ ys) := by
  obtain ⟨M', q1, q2, q3, q4, q5⟩ := h.row.app (bytes := bytes) encD2 (by omega) hy h0 hb
  refine ⟨M', q1, ⟨?_, q2, ?_, ?_⟩⟩
  · refine ⟨Nat.le_trans h.up.1 q4.1, fun o ho => ?_⟩
    rw [q4.2 o (Nat.lt_of_lt_of_le ho h.up.1) (fun hm => by have := (h.fp o hm).1; omega), h.up.2 o ho]
  · intro o ho
    simp only [fpOf, List.mem_singleton] at ho
    subst ho
    exact ⟨h.up.1, by omega⟩
  · intro x hx
    have : x.2.2.1 ≤ 2049 ∧ ∃ bs, M.bytesAt x.2 = some bs ∧ (∀ y ∈ bs, (Lit.int .u8 y).wf = true) ∧ ∀ o ∈ fpS x.2, o ∉ fpOf a := by
      rcases List.mem_append.1 hx with hx | hx
      · exact h.el x hx
      · exact hel x hx
    obtain ⟨h1, bs, h2, h3, h4⟩ := this
    refine ⟨h1, bs, by rw [bytesAt_same (fun o ho => q4.2 o (bytesAt_lt h2 o ho) (h4 o ho))]; exact h2, h3, fun o ho hm => ?_⟩
    simp only [fpOf, List.mem_singleton] at hm
    have := bytesAt_lt h2 o ho
    omega
theorem Dos.push (h : Dos M0 M a l c xs) (hl : l < 200) (b : Bool) {x : Int} (hx : (Lit.int .u8 x).wf = true) :
    ∃ M', (∀ {β : Type} (K : Option (Nat × Nat) → Nat → Cap → Mem → Option β), appK false 2 32 ((M.alloc ⟨[.int .u8 x], .fixed⟩).alloc ⟨[.bool b, .sl (some (M.n, 0)) 1 (.known 1)], .fixed⟩) a l c (.sl (some ((M.alloc ⟨[.int .u8 x], .fixed⟩).n, 0)) 1 (.known 1)) K = K (some (M.n + 2, 0)) (l + 1) (.unk 0) M') ∧
      Dos M0 M' (some (M.n + 2, 0)) (l + 1) (.unk 0) (xs ++ [(b, some (M.n, 0), 1, .known 1)]) := by
  obtain ⟨M1, e1, g1, u1, n1⟩ := alloc_at M ⟨[.int .u8 x], .fixed⟩
  obtain ⟨M2, e2, g2, u2, n2⟩ := alloc_at M1 ⟨[.bool b, .sl (some (M.n, 0)) 1 (.known 1)], .fixed⟩
  rw [e1, e2]
  have h2 := h.more (u1.trans u2)
  have hb : M2.bytesAt (some (M.n, 0), 1, .known 1) = some [x] := ints_whole (xs := [x]) (k := .u8) (c := .known 1) (u2.get g1) (by simp) rfl
  obtain ⟨M', q1, q2⟩ := h2.app (bytes := 32) (a' := some (M1.n, 0)) (l' := 1) (c' := .known 1) (ys := [(b, some (M.n, 0), 1, .known 1)]) (Sl.of g2 (by simp) rfl (by simp) (by simp [encD]) rfl) (by omega) (by omega) (fun y hy => by
    obtain rfl : y = (b, some (M.n, 0), 1, .known 1) := by simpa using hy
    refine ⟨by simp, [x], hb, by simpa using hx, fun o ho hm => ?_⟩
    have h3 : o = M.n := by simpa [fpS, fpOf] using ho
    have := (h.fp o hm).2
    omega)
  have e : M2.n = M.n + 2 := by omega
  rw [e] at q1 q2
  exact ⟨M', q1, q2⟩
end
theorem u8_wf (x : Int) : (Lit.int .u8 (IntKind.wrap .u8 x)).wf = true := by
  rw [wu8]
  have h1 : 0 ≤ x % 256 := Int.emod_nonneg _ (by omega)
  have h2 : x % 256 < 256 := Int.emod_lt_of_pos _ (by omega)
  simp [Lit.wf, IntKind.min, IntKind.max, IntKind.signed, IntKind.bits]
  omega

def zeroQ : List AVal := [.sl none 0 (.known 0), .sl none 0 (.known 0), .sl none 0 (.known 0), .sl none 0 (.known 0), .sl none 0 (.known 0), .sl none 0 (.known 0), .sl none 0 (.known 0), .sl none 0 (.known 0), .sl none 0 (.known 0), .sl none 0 (.known 0), .sl none 0 (.known 0), .sl none 0 (.known 0), .sl none 0 (.known 0), .sl none 0 (.known 0), .sl none 0 (.known 0), .sl none 0 (.known 0), .sl none 0 (.known 0), .sl none 0 (.known 0), .sl none 0 (.known 0), .sl none 0 (.known 0), .sl none 0 (.known 0), .sl none 0 (.known 0), .sl none 0 (.known 0), .sl none 0 (.known 0), .sl none 0 (.known 0), .sl none 0 (.known 0), .sl none 0 (.known 0), .sl none 0 (.known 0), .sl none 0 (.known 0), .sl none 0 (.known 0), .sl none 0 (.known 0), .sl none 0 (.known 0), .sl none 0 (.known 0), .sl none 0 (.known 0), .sl none 0 (.known 0), .sl none 0 (.known 0), .sl none 0 (.known 0), .sl none 0 (.known 0), .sl none 0 (.known 0), .sl none 0 (.known 0), .sl none 0 (.known 0), .sl none 0 (.known 0), .sl none 0 (.known 0), .sl none 0 (.known 0), .sl none 0 (.known 0), .sl none 0 (.known 0), .sl none 0 (.known 0), .sl none 0 (.known 0), .sl none 0 (.known 0), .sl none 0 (.known 0), .sl none 0 (.known 0), .sl none 0 (.known 0), .sl none 0 (.known 0), .sl none 0 (.known 0), .sl none 0 (.known 0), .sl none 0 (.known 0), .sl none 0 (.known 0), .sl none 0 (.known 0), .sl none 0 (.known 0), .sl none 0 (.known 0), .sl none 0 (.known 0), .sl none 0 (.known 0), .sl none 0 (.known 0), .sl none 0 (.known 0), .int .i64 0, .int .i64 0, .int .i64 0]
theorem names_step {x : Option (Nat × Nat)} {i : Nat} {M : Mem} (hN : ∀ M', M.Upto M' → C 41 [.ptr x] M' = some (.bool true, M')) (hi : i < 2) :
    ∃ M' q, (∀ M'', M'.Upto M'' → C 41 [.ptr (some (q, 0))] M'' = some (.bool true, M'')) ∧ p10_1 C prog.meth x i M = p10_1 C prog.meth (some (q, 0)) ((i + 1 : Nat) : Int) M' := by
  have hE := p10_1_eq C prog.meth x i M
  have h1 : ((i : Int) < 2) := by omega
  have hw : IntKind.wrap .i64 ((i : Int) + 1) = ((i + 1 : Nat) : Int) := by rw [wrap_i64 (by omega) (by omega)]; rfl
  have k1 : C 30 [.ptr x] M = some (.tup [.sl none 0 (.known 0), .int .i64 1], M) := by
    have hE := p30_0_eq C prog.meth x M
    simp only [Option.bind_some, List.getElem?_cons_zero, List.getElem?_cons_succ, int?_int, AVal.bool?, AVal.ptr?, AVal.sl?, AVal.tup?, AVal.agg?, AVal.ifc?, AVal.fn?, AVal.str?, List.head?_cons, List.tail_cons, List.isEmpty_nil, cond_true, cond_false, Option.isNone_some, Option.isNone_none, Bool.not_true, Bool.not_false, decide_true, decide_false, beq_self_eq_true, bne_self_eq_false, Int.reduceBEq, Int.reduceBNe, Int.cast_ofNat_Int, hN M (Mem.Upto.refl _)] at hE
    exact c30 hE
  obtain ⟨M1, e1, g1, u1, n1⟩ := alloc_at M ⟨replZ [.int .u8 0] 2049, .fixed⟩
  have k2 : C 32 [.ptr x, .sl (some (M.n, 0)) 2049 (.known 2049)] M1 = some (.int .i64 1, M1) := by
    have hE := p32_0_eq C prog.meth x (some (M.n, 0)) 2049 (.known 2049) M1
    simp only [Option.bind_some, List.getElem?_cons_zero, List.getElem?_cons_succ, int?_int, AVal.bool?, AVal.ptr?, AVal.sl?, AVal.tup?, AVal.agg?, AVal.ifc?, AVal.fn?, AVal.str?, List.head?_cons, List.tail_cons, List.isEmpty_nil, cond_true, cond_false, Option.isNone_some, Option.isNone_none, Bool.not_true, Bool.not_false, decide_true, decide_false, beq_self_eq_true, bne_self_eq_false, Int.reduceBEq, Int.reduceBNe, Int.cast_ofNat_Int, hN M1 u1] at hE
    exact c32 hE
  have k3 : C 35 [.ptr x] M1 = some (.int .i64 0, M1) := by
    have hE := p35_0_eq C prog.meth x M1
    simp only [Option.bind_some, List.getElem?_cons_zero, List.getElem?_cons_succ, int?_int, AVal.bool?, AVal.ptr?, AVal.sl?, AVal.tup?, AVal.agg?, AVal.ifc?, AVal.fn?, AVal.str?, List.head?_cons, List.tail_cons, List.isEmpty_nil, cond_true, cond_false, Option.isNone_some, Option.isNone_none, Bool.not_true, Bool.not_false, decide_true, decide_false, beq_self_eq_true, bne_self_eq_false, Int.reduceBEq, Int.reduceBNe, Int.cast_ofNat_Int, hN M1 u1] at hE
    exact c35 hE
  have k4 : C 34 [.ptr x] M1 = some (.sl none 0 (.known 0), M1) := by
    have hE := p34_0_eq C prog.meth x M1
    simp only [Option.bind_some, List.getElem?_cons_zero, List.getElem?_cons_succ, int?_int, AVal.bool?, AVal.ptr?, AVal.sl?, AVal.tup?, AVal.agg?, AVal.ifc?, AVal.fn?, AVal.str?, List.head?_cons, List.tail_cons, List.isEmpty_nil, cond_true, cond_false, Option.isNone_some, Option.isNone_none, Bool.not_true, Bool.not_false, decide_true, decide_false, beq_self_eq_true, bne_self_eq_false, Int.reduceBEq, Int.reduceBNe, Int.cast_ofNat_Int, hN M1 u1] at hE
    exact c34 hE
  have z0 : (((0 : Nat) : Int) != 0) = false := rfl
  simp only [Option.bind_some, List.getElem?_cons_zero, List.getElem?_cons_succ, int?_int, AVal.bool?, AVal.ptr?, AVal.sl?, AVal.tup?, AVal.agg?, AVal.ifc?, AVal.fn?, AVal.str?, List.head?_cons, List.tail_cons, List.isEmpty_nil, cond_true, cond_false, Option.isNone_some, Option.isNone_none, Bool.not_true, Bool.not_false, decide_true, decide_false, beq_self_eq_true, bne_self_eq_false, Int.reduceBEq, Int.reduceBNe, Int.cast_ofNat_Int, h1, k1, hw, z0, e1, k2, k3, k4] at hE
  obtain ⟨M2, e2, g2, u2, n2⟩ := alloc_at M1 ⟨zeroQ, .fixed⟩
  unfold zeroQ at e2
  rw [e2] at hE
  refine ⟨M2, M1.n, fun M'' hu => ?_, hE⟩
  have hE := p41_0_eq C prog.meth (some (M1.n, 0)) M''
  have l0 : M''.ldI .i64 M1.n 66 = some 0 := by unfold Mem.ldI; rw [ld_fix (hu.get g2)]; rfl
  simp only [Option.bind_some, List.getElem?_cons_zero, List.getElem?_cons_succ, int?_int, AVal.bool?, AVal.ptr?, AVal.sl?, AVal.tup?, AVal.agg?, AVal.ifc?, AVal.fn?, AVal.str?, List.head?_cons, List.tail_cons, List.isEmpty_nil, cond_true, cond_false, Option.isNone_some, Option.isNone_none, Bool.not_true, Bool.not_false, decide_true, decide_false, beq_self_eq_true, bne_self_eq_false, Int.reduceBEq, Int.reduceBNe, Int.cast_ofNat_Int, Nat.zero_add, l0] at hE
  exact c41 hE
theorem names_l : ∀ (d i : Nat) {M0 M : Mem} {a : Option (Nat × Nat)} {c : Cap} {xs : List (Bool × SlV)}, i + d = 70 → Dos M0 M a i c xs →
    ∃ M' a' c' xs', Dos M0 M' a' 70 c' xs' ∧ p10_2 C prog.meth a i c i M = p10_2 C prog.meth a' 70 c' (70 : Nat) M'
  | 0, i, M0, M, a, c, xs, hi, h => by
    obtain rfl : i = 70 := by omega
    exact ⟨M, a, c, xs, h, rfl⟩
  | d + 1, i, M0, M, a, c, xs, hi, h => by
    have hE := p10_2_eq C prog.meth a i c i M
    have h1 : ((i : Int) < 70) := by omega
    have hw : IntKind.wrap .i64 ((i : Int) + 1) = ((i + 1 : Nat) : Int) := by rw [wrap_i64 (by omega) (by omega)]; rfl
    obtain ⟨M', q1, q2⟩ := h.push (by omega) (Int.tmod (i : Int) 3 == 2) (u8_wf i)
    simp only [h1, decide_true, cond_true, q1, hw] at hE
    obtain ⟨M2, a2, c2, xs2, r1, r2⟩ := names_l d (i + 1) (by omega) q2
    exact ⟨M2, a2, c2, xs2, r1, hE.trans r2⟩
theorem names_r {b : Option (Nat × Nat)} {bl : Nat} {bc : Cap} : ∀ (d i : Nat) {M0 M : Mem} {a : Option (Nat × Nat)} {c : Cap} {xs : List (Bool × SlV)}, i + d = 150 → Dos M0 M a i c xs →
    ∃ M' a' c' xs', Dos M0 M' a' 150 c' xs' ∧ p10_3 C prog.meth b bl bc a i c i M = p10_3 C prog.meth b bl bc a' 150 c' (150 : Nat) M'
  | 0, i, M0, M, a, c, xs, hi, h => by
    obtain rfl : i = 150 := by omega
    exact ⟨M, a, c, xs, h, rfl⟩
  | d + 1, i, M0, M, a, c, xs, hi, h => by
    have hE := p10_3_eq C prog.meth b bl bc a i c i M
    have h1 : ((i : Int) < 150) := by omega
    have hw : IntKind.wrap .i64 ((i : Int) + 1) = ((i + 1 : Nat) : Int) := by rw [wrap_i64 (by omega) (by omega)]; rfl
    by_cases h2 : ((i : Int) > 1)
    · obtain ⟨M', q1, q2⟩ := h.push (by omega) (Int.tmod (i : Int) 2 == 0) (u8_wf i)
      simp only [h1, h2, decide_true, cond_true, q1, hw] at hE
      obtain ⟨M2, a2, c2, xs2, r1, r2⟩ := names_r d (i + 1) (by omega) q2
      exact ⟨M2, a2, c2, xs2, r1, hE.trans r2⟩
    · obtain ⟨M', q1, q2⟩ := h.push (by omega) false (u8_wf i)
      simp only [h1, h2, decide_true, decide_false, cond_true, cond_false, q1, hw] at hE
      obtain ⟨M2, a2, c2, xs2, r1, r2⟩ := names_r d (i + 1) (by omega) q2
      exact ⟨M2, a2, c2, xs2, r1, hE.trans r2⟩
theorem QRows.nil (M : Mem) : QRows M none 0 (.known 0) := fun i hi => by omega
theorem QueueNames_C {M : Mem} : ∃ M', C 10 [] M = some (.bool true, M') := by
  obtain ⟨Ma, hawake⟩ := awake26_C
  have n0 : ∀ M', M.Upto M' → C 41 [.ptr none] M' = some (.bool true, M') := fun M' _ => by
    have hE := p41_0_eq C prog.meth none M'
    simp only [Option.isNone_none, cond_true] at hE
    exact c41 hE
  obtain ⟨M1, q1, n1, s1⟩ := names_step (i := 0) n0 (by omega)
  obtain ⟨M2, q2, n2, s2⟩ := names_step (i := 1) n1 (by omega)
  have hE := p10_1_eq C prog.meth (some (q2, 0)) ((1 + 1 : Nat) : Int) M2
  have h1 : ¬ (((1 + 1 : Nat) : Int) < 2) := by omega
  simp only [h1, decide_false, cond_false] at hE
  obtain ⟨M3, a3, c3, xs3, d3, s3⟩ := names_l 70 0 (by omega) (Dos.nil M2)
  have hF := p10_2_eq C prog.meth a3 70 c3 (70 : Nat) M3
  have h2 : ¬ (((70 : Nat) : Int) < 70) := by omega
  simp only [h2, decide_false, cond_false] at hF
  obtain ⟨M4, e4, g4, u4, n4⟩ := alloc_at M3 ⟨replZ [.int .u8 0] 2048, .fixed⟩
  obtain ⟨M5, e5, g5, u5, n5⟩ := alloc_at M4 ⟨replZ [.int .u8 0] 2049, .fixed⟩
  obtain ⟨M6, e6, g6, u6, n6⟩ := alloc_at M5 ⟨[.bool false, .sl (some (M3.n, 0)) 2048 (.known 2048), .bool false, .sl (some (M4.n, 0)) 2049 (.known 2049)], .fixed⟩
  rw [replZ_int] at g4 g5
  simp only [e4, e5, e6] at hF
  have d6 := d3.more ((u4.trans u5).trans u6)
  have b4 : M6.bytesAt (some (M3.n, 0), 2048, .known 2048) = some (List.replicate 2048 0) := by
    have := ints_whole (xs := List.replicate 2048 0) (k := .u8) (c := .known 2048) (u6.get (u5.get g4)) (by simp) rfl
    rwa [List.length_replicate] at this
  have b5 : M6.bytesAt (some (M4.n, 0), 2049, .known 2049) = some (List.replicate 2049 0) := by
    have := ints_whole (xs := List.replicate 2049 0) (k := .u8) (c := .known 2049) (u6.get g5) (by simp) rfl
    rwa [List.length_replicate] at this
  have w0 : ∀ n : Nat, ∀ y ∈ List.replicate n (0 : Int), (Lit.int .u8 y).wf = true := fun n y hy => by rw [List.eq_of_mem_replicate hy]; decide
  obtain ⟨M7, p7, d7⟩ := d6.app (bytes := 32) (a' := some (M5.n, 0)) (l' := 2) (c' := .known 2) (ys := [(false, some (M3.n, 0), 2048, .known 2048), (false, some (M4.n, 0), 2049, .known 2049)]) (Sl.of g6 (by simp) rfl (by simp) (by simp [encD]) rfl) (by omega) (by omega) (fun y hy => by
    have hy : y = (false, some (M3.n, 0), 2048, .known 2048) ∨ y = (false, some (M4.n, 0), 2049, .known 2049) := by simpa using hy
    rcases hy with rfl | rfl
    · refine ⟨by simp, _, b4, w0 _, fun o ho hm => ?_⟩
      have h3 : o = M3.n := by simpa [fpS, fpOf] using ho
      have := (d3.fp o hm).2
      omega
    · refine ⟨by simp, _, b5, w0 _, fun o ho hm => ?_⟩
      have h3 : o = M4.n := by simpa [fpS, fpOf] using ho
      have := (d3.fp o hm).2
      omega)
  rw [p7] at hF
  have rl := d7.rows
  obtain ⟨M8, a8, c8, xs8, d8, s8⟩ := names_r (b := some (M6.n, 0)) (bl := 70 + 2) (bc := .unk 0) 150 0 (by omega) (Dos.nil M7)
  have hG := p10_3_eq C prog.meth (some (M6.n, 0)) (70 + 2) (.unk 0) a8 150 c8 (150 : Nat) M8
  have h3 : ¬ (((150 : Nat) : Int) < 150) := by omega
  simp only [Option.bind_some, List.getElem?_cons_zero, List.getElem?_cons_succ, int?_int, AVal.bool?, AVal.ptr?, AVal.sl?, AVal.tup?, AVal.agg?, AVal.ifc?, AVal.fn?, AVal.str?, List.head?_cons, List.tail_cons, List.isEmpty_nil, cond_true, cond_false, Option.isNone_some, Option.isNone_none, Bool.not_true, Bool.not_false, decide_true, decide_false, beq_self_eq_true, bne_self_eq_false, Int.reduceBEq, Int.reduceBNe, Int.cast_ofNat_Int, h3, hawake] at hG
  have rr := d8.rows
  have rl8 := rl.mono d8.up
  obtain ⟨N1, c1, v1⟩ := QueuePlays_C (n := 0) (QRows.nil M8)
  rw [c1, Option.bind_some] at hG; simp only [Option.bind_some, List.getElem?_cons_zero, List.getElem?_cons_succ, int?_int, AVal.bool?, AVal.ptr?, AVal.sl?, AVal.tup?, AVal.agg?, AVal.ifc?, AVal.fn?, AVal.str?, List.head?_cons, List.tail_cons, List.isEmpty_nil, cond_true, cond_false, Option.isNone_some, Option.isNone_none, Bool.not_true, Bool.not_false, decide_true, decide_false, beq_self_eq_true, bne_self_eq_false, Int.reduceBEq, Int.reduceBNe, Int.cast_ofNat_Int] at hG
  obtain ⟨N2, c2, v2⟩ := QueuePlays_C (n := 65) (QRows.nil N1)
  rw [c2, Option.bind_some] at hG; simp only [Option.bind_some, List.getElem?_cons_zero, List.getElem?_cons_succ, int?_int, AVal.bool?, AVal.ptr?, AVal.sl?, AVal.tup?, AVal.agg?, AVal.ifc?, AVal.fn?, AVal.str?, List.head?_cons, List.tail_cons, List.isEmpty_nil, cond_true, cond_false, Option.isNone_some, Option.isNone_none, Bool.not_true, Bool.not_false, decide_true, decide_false, beq_self_eq_true, bne_self_eq_false, Int.reduceBEq, Int.reduceBNe, Int.cast_ofNat_Int] at hG
  obtain ⟨N3, c3', v3⟩ := QueuePlays_C (n := -1) (QRows.nil N2)
  rw [c3', Option.bind_some] at hG; simp only [Option.bind_some, List.getElem?_cons_zero, List.getElem?_cons_succ, int?_int, AVal.bool?, AVal.ptr?, AVal.sl?, AVal.tup?, AVal.agg?, AVal.ifc?, AVal.fn?, AVal.str?, List.head?_cons, List.tail_cons, List.isEmpty_nil, cond_true, cond_false, Option.isNone_some, Option.isNone_none, Bool.not_true, Bool.not_false, decide_true, decide_false, beq_self_eq_true, bne_self_eq_false, Int.reduceBEq, Int.reduceBNe, Int.cast_ofNat_Int] at hG
  have w3 := (v1.trans v2).trans v3
  obtain ⟨N4, c4, v4⟩ := QueuePlays_C (n := 1) (rl8.mono w3)
  rw [c4, Option.bind_some] at hG; simp only [Option.bind_some, List.getElem?_cons_zero, List.getElem?_cons_succ, int?_int, AVal.bool?, AVal.ptr?, AVal.sl?, AVal.tup?, AVal.agg?, AVal.ifc?, AVal.fn?, AVal.str?, List.head?_cons, List.tail_cons, List.isEmpty_nil, cond_true, cond_false, Option.isNone_some, Option.isNone_none, Bool.not_true, Bool.not_false, decide_true, decide_false, beq_self_eq_true, bne_self_eq_false, Int.reduceBEq, Int.reduceBNe, Int.cast_ofNat_Int] at hG
  have w4 := w3.trans v4
  obtain ⟨N5, c5, v5⟩ := QueuePlays_C (n := 64) (rl8.mono w4)
  rw [c5, Option.bind_some] at hG; simp only [Option.bind_some, List.getElem?_cons_zero, List.getElem?_cons_succ, int?_int, AVal.bool?, AVal.ptr?, AVal.sl?, AVal.tup?, AVal.agg?, AVal.ifc?, AVal.fn?, AVal.str?, List.head?_cons, List.tail_cons, List.isEmpty_nil, cond_true, cond_false, Option.isNone_some, Option.isNone_none, Bool.not_true, Bool.not_false, decide_true, decide_false, beq_self_eq_true, bne_self_eq_false, Int.reduceBEq, Int.reduceBNe, Int.cast_ofNat_Int] at hG
  have w5 := w4.trans v5
  obtain ⟨N6, c6, v6⟩ := QueueOrder_C (n := 63) (rl8.mono w5)
  rw [c6, Option.bind_some] at hG; simp only [Option.bind_some, List.getElem?_cons_zero, List.getElem?_cons_succ, int?_int, AVal.bool?, AVal.ptr?, AVal.sl?, AVal.tup?, AVal.agg?, AVal.ifc?, AVal.fn?, AVal.str?, List.head?_cons, List.tail_cons, List.isEmpty_nil, cond_true, cond_false, Option.isNone_some, Option.isNone_none, Bool.not_true, Bool.not_false, decide_true, decide_false, beq_self_eq_true, bne_self_eq_false, Int.reduceBEq, Int.reduceBNe, Int.cast_ofNat_Int] at hG
  have w6 := w5.trans v6
  obtain ⟨N7, c7, v7⟩ := QueuePlays_C (n := 2) (rr.mono w6)
  rw [c7, Option.bind_some] at hG; simp only [Option.bind_some, List.getElem?_cons_zero, List.getElem?_cons_succ, int?_int, AVal.bool?, AVal.ptr?, AVal.sl?, AVal.tup?, AVal.agg?, AVal.ifc?, AVal.fn?, AVal.str?, List.head?_cons, List.tail_cons, List.isEmpty_nil, cond_true, cond_false, Option.isNone_some, Option.isNone_none, Bool.not_true, Bool.not_false, decide_true, decide_false, beq_self_eq_true, bne_self_eq_false, Int.reduceBEq, Int.reduceBNe, Int.cast_ofNat_Int] at hG
  have w7 := w6.trans v7
  obtain ⟨N8, c8', v8⟩ := QueuePlays_C (n := 3) (rr.mono w7)
  rw [c8', Option.bind_some] at hG; simp only [Option.bind_some, List.getElem?_cons_zero, List.getElem?_cons_succ, int?_int, AVal.bool?, AVal.ptr?, AVal.sl?, AVal.tup?, AVal.agg?, AVal.ifc?, AVal.fn?, AVal.str?, List.head?_cons, List.tail_cons, List.isEmpty_nil, cond_true, cond_false, Option.isNone_some, Option.isNone_none, Bool.not_true, Bool.not_false, decide_true, decide_false, beq_self_eq_true, bne_self_eq_false, Int.reduceBEq, Int.reduceBNe, Int.cast_ofNat_Int] at hG
  exact ⟨_, c10 ((p10_0_eq _ _ _).trans (s1.trans (s2.trans (hE.trans (s3.trans (hF.trans (s8.trans hG)))))))⟩
theorem QueueNames_law : ∀ avs M, M.Whole → okL M.n avs → ShowsArgs M [] avs → ∃ M', C 10 avs M = some (.bool true, M') := by
  intro avs M hM hok h
  simp only [ShowsArgs] at h
  subst h
  exact QueueNames_C
end Go.Proofs.Ytndolnehppadnaa.M
