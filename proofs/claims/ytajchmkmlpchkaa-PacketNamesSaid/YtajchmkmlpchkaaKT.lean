/- PacketPlays. -/
import Derived.Test.YtajchmkmlpchkaaKS
import Derived.Test.YtajchmkmlpchkaaKR
set_option linter.unusedVariables false
set_option linter.unusedSimpArgs false
set_option linter.unnecessarySimpa false
set_option maxRecDepth 100000
namespace Go.Proofs.Ytajchmkmlpchkaa.M
open Go.Abs

/-- The packet and the document's. -/
structure PS (M0 M : Mem) (p o m : Nat) (v : SlV) (B : List Int) (a t mv : Nat) : Prop where
  up : M0.Upto M
  ip : IsP M p o B a t mv
  ir : IsRP M m v B a t mv
  nw : M0.n ≤ p ∧ M0.n ≤ o ∧ M0.n ≤ m ∧ ∀ x ∈ fpS v, M0.n ≤ x
  ds : m ≠ p ∧ m ≠ o ∧ ∀ x ∈ fpS v, x ≠ p ∧ x ≠ o
  wf : wfB B
section
variable {M0 M M' : Mem} {p o m : Nat} {v : SlV} {B : List Int} {a t mv : Nat}
theorem PS.upto (h : PS M0 M p o m v B a t mv) (hu : M.Upto M') : PS M0 M' p o m v B a t mv := ⟨h.up.trans hu, h.ip.upto hu, h.ir.upto hu, h.nw, h.ds, h.wf⟩
/-- What changes new objects alone. -/
theorem PS.but {S : Nat → Prop} (h : PS M0 M p o m v B a t mv) (hb : Mem.But S M M') (h1 : ∀ x, S x → M0.n ≤ x ∧ x ≠ p ∧ x ≠ o ∧ x ≠ m ∧ x ∉ fpS v) : PS M0 M' p o m v B a t mv := by
  have hp := h.ip.lt
  have hr := h.ir.lt
  have hn := h.up.1
  exact ⟨⟨by have := hb.1; omega, fun x hx => by rw [hb.2 x (by omega) (fun e => by have := (h1 x e).1; omega), h.up.2 x hx]⟩,
    h.ip.same (hb.2 p hp.1 (fun e => (h1 p e).2.1 rfl)) (hb.2 o hp.2 (fun e => (h1 o e).2.2.1 rfl)),
    h.ir.same (hb.2 m hr.1 (fun e => (h1 m e).2.2.2.1 rfl)) (fun x hx => hb.2 x (hr.2 x hx) (fun e => (h1 x e).2.2.2.2 hx)), h.nw, h.ds, h.wf⟩
theorem PS.pair {p' o' : Nat} {B' : List Int} {a' t' mv' : Nat} {M1 M2 : Mem} {v' : SlV} (h : PS M0 M p o m v B a t mv) (ip : IsP M1 p o' B' a' t' mv') (hb1 : Mem.But (· ∈ [p, o]) M M1) (ho : o' = o ∨ M.n ≤ o')
    (ir : IsRP M2 m v' B' a' t' mv') (hb2 : Mem.But (fun x => x = m ∨ x ∈ fpS v) M1 M2) (hv : ∀ x ∈ fpS v', x ∈ fpS v ∨ M1.n ≤ x) (hw : wfB B') : PS M0 M2 p o' m v' B' a' t' mv' := by
  have hp := h.ip.lt
  have hr := h.ir.lt
  have hn := h.up.1
  have hd := h.ds
  have hnw := h.nw
  have h1 := hb1.1
  have hp1 := ip.lt
  refine ⟨⟨by have := hb2.1; omega, fun x hx => ?_⟩, ip.same (hb2.2 p hp1.1 (fun e => ?_)) (hb2.2 o' hp1.2 (fun e => ?_)), ir, ⟨hnw.1, ?_, hnw.2.2.1, fun x hx => ?_⟩, ⟨hd.1, ?_, fun x hx => ⟨?_, ?_⟩⟩, hw⟩
  · rw [hb2.2 x (by omega) (fun e => by
      rcases e with e | e
      · omega
      · have := hnw.2.2.2 x e; omega), hb1.2 x (by omega) (by simp; omega), h.up.2 x hx]
  · rcases e with e | e
    · omega
    · exact (hd.2.2 p e).1 rfl
  · rcases e with e | e
    · omega
    · rcases ho with e2 | e2
      · exact (hd.2.2 o' e).2 e2
      · have := hr.2 o' e; omega
  · omega
  · rcases hv x hx with e | e
    · exact hnw.2.2.2 x e
    · omega
  · omega
  · rcases hv x hx with e | e
    · exact (hd.2.2 x e).1
    · omega
  · rcases hv x hx with e | e
    · have h2 := hd.2.2 x e
      have h3 := hr.2 x e
      omega
    · omega
theorem PS.irn {p' o' : Nat} {M1 : Mem} (h : PS M0 M p o m v B a t mv) (hb1 : Mem.But (· ∈ [p, o]) M M1) : IsRP M1 m v B a t mv := by
  have hr := h.ir.lt
  have hd := h.ds
  exact h.ir.same (hb1.2 m hr.1 (by simp; omega)) (fun x hx => hb1.2 x (hr.2 x hx) (by have := hd.2.2 x hx; simp; omega))
theorem PS.head (h : PS M0 M p o m v B a t mv) (n : Int) (hm : mv < 2 ^ 61) :
    ∃ e M1 M2 o' v' B' a' t' mv', C 15 [.ptr (some (p, 0)), .int .i64 n] M = some (.int .i64 e, M1) ∧ C 25 [.ptr (some (m, 0)), .int .i64 n] M1 = some (.int .i64 e, M2) ∧ PS M0 M2 p o' m v' B' a' t' mv' ∧ mv' ≤ mv + 1 ∧ Mem.But (· ∈ [p, o]) M M1 := by
  have hall := h.ip.all
  rcases PHead_C h.ip n (by omega) with ⟨e, c1⟩ | ⟨e, M1, o', c1, q1, n1, b1, f1⟩
  · rcases RHead_C h.ir n (by omega) h.ir.ra (by omega) with ⟨_, c2⟩ | ⟨e', _⟩
    · exact ⟨_, _, _, _, _, _, _, _, _, c1, c2, h, by omega, Mem.But.refl _ _⟩
    · exact absurd e' e
  · have ir1 := h.irn (p' := 0) (o' := 0) b1
    rcases RHead_C ir1 n (by omega) h.ir.ra (by omega) with ⟨e', _⟩ | ⟨_, M2, v', c2, q2, n2, b2, f2⟩
    · exact absurd e e'
    · exact ⟨_, _, _, _, _, _, _, _, _, c1, c2, h.pair (p' := 0) q1 b1 f1 q2 (b2.mono (fun x hx => .inl hx)) (fun x hx => .inr (f2 x hx)) (h.wf.head n), by omega, b1⟩
theorem PS.tail (h : PS M0 M p o m v B a t mv) (n : Int) (hm : mv < 2 ^ 61) :
    ∃ e M1 M2 o' v' B' a' t' mv', C 16 [.ptr (some (p, 0)), .int .i64 n] M = some (.int .i64 e, M1) ∧ C 26 [.ptr (some (m, 0)), .int .i64 n] M1 = some (.int .i64 e, M2) ∧ PS M0 M2 p o' m v' B' a' t' mv' ∧ mv' ≤ mv + 1 ∧ Mem.But (· ∈ [p, o]) M M1 := by
  have hall := h.ip.all
  rcases PTail_C h.ip n (by omega) with ⟨e, c1⟩ | ⟨e, M1, o', c1, q1, n1, b1, f1⟩
  · rcases RTail_C h.ir n (by omega) (by omega) with ⟨_, c2⟩ | ⟨e', _⟩
    · exact ⟨_, _, _, _, _, _, _, _, _, c1, c2, h, by omega, Mem.But.refl _ _⟩
    · exact absurd e' e
  · have ir1 := h.irn (p' := 0) (o' := 0) b1
    rcases RTail_C ir1 n (by omega) (by omega) with ⟨e', _⟩ | ⟨_, M2, v', c2, q2, n2, b2, f2⟩
    · exact absurd e e'
    · exact ⟨_, _, _, _, _, _, _, _, _, c1, c2, h.pair (p' := 0) q1 b1 f1 q2 (b2.mono (fun x hx => .inl hx)) (fun x hx => .inr (f2 x hx)) (h.wf.tail n), by omega, b1⟩
theorem PS.load (h : PS M0 M p o m v B a t mv) (at_ size : Int) :
    ∃ x e, C 17 [.ptr (some (p, 0)), .int .i64 at_, .int .i64 size] M = some (.tup [.int .u64 x, .int .i64 e], M) ∧ C 27 [.ptr (some (m, 0)), .int .i64 at_, .int .i64 size] M = some (.tup [.int .u64 x, .int .i64 e], M) := by
  rcases PLoad_C h.ip at_ size with ⟨e, c1⟩ | ⟨e, c1⟩
  · rcases RLoad_C h.ir at_ size with ⟨_, c2⟩ | ⟨e', _⟩
    · exact ⟨_, _, c1, c2⟩
    · exact absurd e' e
  · rcases RLoad_C h.ir at_ size with ⟨e', _⟩ | ⟨_, c2⟩
    · exact absurd e e'
    · rw [← fold_same _ _ (by omega) ((h.wf.drop _).take _)] at c2
      exact ⟨_, _, c1, c2⟩
theorem PS.store (h : PS M0 M p o m v B a t mv) (at_ size : Int) {V : Int} (hV : 0 ≤ V ∧ V < 18446744073709551616) :
    ∃ e M1 M2 B', C 18 [.ptr (some (p, 0)), .int .i64 at_, .int .i64 size, .int .u64 V] M = some (.int .i64 e, M1) ∧ C 28 [.ptr (some (m, 0)), .int .i64 at_, .int .i64 size, .int .u64 V] M1 = some (.int .i64 e, M2) ∧ PS M0 M2 p o m v B' a t mv ∧ Mem.But (· ∈ [p, o]) M M1 := by
  rcases PStore_C h.ip at_ size V with ⟨e, c1⟩ | ⟨e, M1, c1, q1, n1, b1⟩
  · rcases RStore_C h.ir at_ size V with ⟨_, c2⟩ | ⟨e', _⟩
    · exact ⟨_, _, _, _, c1, c2, h, Mem.But.refl _ _⟩
    · exact absurd e' e
  · have b1' : Mem.But (· ∈ [p, o]) M M1 := b1.mono (fun x hx => by simp [hx])
    have ir1 := h.irn (p' := 0) (o' := 0) b1'
    rcases RStore_C ir1 at_ size V with ⟨e', _⟩ | ⟨_, M2, c2, q2, n2, b2⟩
    · exact absurd e e'
    · have hb := askE_zero e
      have hs : stR at_.toNat size.toNat V B = storeB B at_ size V := by
        have := stR_storeB (B := B) (k := at_.toNat) (n := size.toNat) hV.1 hV.2 (by omega) (by omega)
        rwa [Int.toNat_of_nonneg (by omega), Int.toNat_of_nonneg (by omega)] at this
      rw [← hs] at q1
      exact ⟨_, _, _, _, c1, c2, h.pair (p' := 0) q1 b1' (.inl rfl) q2 (b2.mono (fun x hx => .inr hx)) (fun x hx => .inl hx) (wfB.stR _ _ _ h.wf), b1'⟩
/-- A byte of the packet is written through Data. -/
theorem IsP.put {k : Nat} {y : Int} (h : IsP M p o B a t mv) (hk : k < B.length) : ∃ M', M.st o (a + k) [.int .u8 y] = some M' ∧ IsP M' p o (B.set k y) a t mv ∧ M'.n = M.n ∧ Mem.But (· = o) M M' := by
  obtain ⟨xs, ys, g, hx, hy⟩ := h.go
  have hst := st_fix (i := a + k) (vs := [.int .u8 y]) g (by simp; omega)
  rw [overL_one, ← List.map_set, List.set_append_right _ _ (by omega), show a + k - xs.length = k from by omega, List.set_append_left _ _ (by omega)] at hst
  refine ⟨_, hst, ⟨?_, ⟨xs, ys, get_put_self (Mem.get_lt g), hx, hy⟩, h.ne, by simpa using h.sz, by simpa using h.all⟩, rfl, Mem.But.put _ _ _⟩
  rw [get_put_ne h.ne, List.length_set]; exact h.gp
/-- Two bytes appended to one slice: each its own. -/
theorem apart_C {a1 : Option (Nat × Nat)} {l : Nat} {xs : List Int} (hx : M.ints .u8 a1 l (.known l) = some xs) (hl : l ≤ 2048) : ∃ M', p12_2 C prog.meth a1 l (.known l) M = some (.bool true, M') ∧ M.Upto M' := by
  have hE := p12_2_eq C prog.meth a1 l (.known l) M
  have hxl := ints_length hx
  have one : ∀ (M : Mem) (y : Int), M.ints .u8 a1 l (.known l) = some xs → ∃ M', M.Upto M' ∧ (∀ {β : Type} (K : Option (Nat × Nat) → Nat → Cap → Mem → Option β), appK false 1 1 (M.alloc ⟨[.int .u8 y], .fixed⟩) a1 l (.known l) (.sl (some (M.n, 0)) 1 (.known 1)) K = K (some (M.n + 1, 0)) (l + 1) (.unk 0) M') ∧ M'.get (M.n + 1) = some ⟨(xs ++ [y]).map (.int .u8), .grow 1⟩ := by
    intro M y hx
    have u1 := Mem.Upto.alloc M ⟨[.int .u8 y], .fixed⟩
    have g1 := get_alloc_self M ⟨[.int .u8 y], .fixed⟩
    have hx1 := ints_raws.1 (ints_upto hx u1)
    have hy : (M.alloc ⟨[.int .u8 y], .fixed⟩).raws 1 (some (M.n, 0)) 1 (.known 1) = some ([y].map (.int .u8)) := ints_raws.1 (ints_whole (xs := [y]) (k := .u8) (c := .known 1) g1 (by simp) rfl)
    have g2 := get_alloc_self (M.alloc ⟨[.int .u8 y], .fixed⟩) ⟨xs.map (.int .u8) ++ [y].map (.int .u8), .grow 1⟩
    rw [← List.map_append] at g2
    exact ⟨_, u1.alloc_r _, fun K => (appK_more hx1 hy (by omega) (by omega)).trans (by rw [← List.map_append]; rfl), g2⟩
  obtain ⟨M1, u1, k1, g1⟩ := one M 238 hx
  obtain ⟨M2, u2, k2, g2⟩ := one M1 17 (ints_upto hx u1)
  have h0 : (0 : Int) ≤ (l : Int) := by omega
  have h2 : Nat.blt l (l + 1) = true := Mem.blt_iff.2 (by omega)
  have r1 : M2.ldI .u8 (M.n + 1) l = some 238 := ldI_ld.2 (by rw [ld_grow (u2.get g1)]; simp [← hxl])
  have r2 : M2.ldI .u8 (M1.n + 1) l = some 17 := ldI_ld.2 (by rw [ld_grow g2]; simp [← hxl])
  have s1 : slPtr (some (M.n + 1, 0)) (.unk 0) = some (M.n + 1, 0) := rfl
  have s2 : slPtr (some (M1.n + 1, 0)) (.unk 0) = some (M1.n + 1, 0) := rfl
  simp only [k1, k2, h0, Int.toNat_natCast, h2, decide_true, cond_true, s1, s2, Option.bind_some, Nat.zero_add, Nat.mul_one, r1, r2, beq_self_eq_true] at hE
  exact ⟨M2, hE, u1.trans u2⟩
/-- A call of both. -/
theorem done_C (h : PS M0 M p o m v B a t mv) (hm : mv < 2 ^ 61) {kd nn at_ sz vv : Int} (hv : 0 ≤ vv ∧ vv < 18446744073709551616) :
    ∃ M' o' v' B' a' t' mv', C 12 [.ptr (some (p, 0)), .ptr (some (m, 0)), .agg [.int .i64 kd, .int .i64 nn, .int .i64 at_, .int .i64 sz, .int .u64 vv]] M = some (.bool true, M') ∧ PS M0 M' p o' m v' B' a' t' mv' ∧ mv' ≤ mv + 1 := by
  have hE := p12_0_eq C prog.meth (some (p, 0)) (some (m, 0)) kd nn at_ sz vv M
  have u1 := Mem.Upto.alloc M ⟨[.int .i64 kd, .int .i64 nn, .int .i64 at_, .int .i64 sz, .int .u64 vv], .fixed⟩
  have g1 := get_alloc_self M ⟨[.int .i64 kd, .int .i64 nn, .int .i64 at_, .int .i64 sz, .int .u64 vv], .fixed⟩
  generalize M.alloc ⟨[.int .i64 kd, .int .i64 nn, .int .i64 at_, .int .i64 sz, .int .u64 vv], .fixed⟩ = M1 at hE u1 g1
  have rd : ∀ M3 : Mem, M3.get M.n = some ⟨[.int .i64 kd, .int .i64 nn, .int .i64 at_, .int .i64 sz, .int .u64 vv], .fixed⟩ → M3.ldI .i64 M.n 0 = some kd ∧ M3.ldI .i64 M.n 1 = some nn ∧ M3.ldI .i64 M.n 2 = some at_ ∧ M3.ldI .i64 M.n 3 = some sz ∧ M3.ldI .u64 M.n 4 = some vv ∧ M3.still M.n 1 [.int .i64 nn] = true ∧ M3.still M.n 2 [.int .i64 at_] = true ∧ M3.still M.n 3 [.int .i64 sz] = true ∧ M3.still M.n 4 [.int .u64 vv] = true := fun M3 g => ⟨ldI_ld.2 (by rw [ld_fix g]; rfl), ldI_ld.2 (by rw [ld_fix g]; rfl), ldI_ld.2 (by rw [ld_fix g]; rfl), ldI_ld.2 (by rw [ld_fix g]; rfl), ldI_ld.2 (by rw [ld_fix g]; rfl), still1 (by rw [ld_fix g]; rfl), still1 (by rw [ld_fix g]; rfl), still1 (by rw [ld_fix g]; rfl), still1 (by rw [ld_fix g]; rfl)⟩
  have r1 := rd M1 g1
  have hh := h.upto u1
  have hp := h.ip.lt
  obtain ⟨r, hr, cr⟩ := Bring_C (i := kd) (n := 6) (M := Mem.empty) (by omega) (by omega)
  simp only [Option.bind_some, List.getElem?_cons_zero, List.getElem?_cons_succ, int?_int, AVal.bool?, AVal.ptr?, AVal.sl?, AVal.tup?, AVal.agg?, AVal.ifc?, AVal.fn?, AVal.str?, List.head?_cons, List.tail_cons, List.isEmpty_nil, cond_true, cond_false, Option.isNone_some, Option.isNone_none, Bool.not_true, Bool.not_false, decide_true, decide_false, beq_self_eq_true, bne_self_eq_false, Int.reduceBEq, Int.reduceBNe, Int.cast_ofNat_Int, r1, cr] at hE
  have kp : ∀ M3, Mem.But (· ∈ [p, o]) M1 M3 → M3.get M.n = some ⟨[.int .i64 kd, .int .i64 nn, .int .i64 at_, .int .i64 sz, .int .u64 vv], .fixed⟩ := fun M3 b => b.get g1 (by simp; omega)
  obtain rfl | rfl | rfl | rfl | hr4 : r = 0 ∨ r = 1 ∨ r = 2 ∨ r = 3 ∨ 4 ≤ r := by omega
  · obtain ⟨e, M3, M4, o', v', B', a', t', mv', c1, c2, h4, hm4, b1⟩ := hh.head nn hm
    have r3 := rd M3 (kp M3 b1)
    simp only [Option.bind_some, List.getElem?_cons_zero, List.getElem?_cons_succ, int?_int, AVal.bool?, AVal.ptr?, AVal.sl?, AVal.tup?, AVal.agg?, AVal.ifc?, AVal.fn?, AVal.str?, List.head?_cons, List.tail_cons, List.isEmpty_nil, cond_true, cond_false, Option.isNone_some, Option.isNone_none, Bool.not_true, Bool.not_false, decide_true, decide_false, beq_self_eq_true, bne_self_eq_false, Int.reduceBEq, Int.reduceBNe, Int.cast_ofNat_Int, Int.natCast_zero, c1, r1, r3, c2] at hE
    exact ⟨M4, _, _, _, _, _, _, c12 hE, h4, hm4⟩
  · obtain ⟨e, M3, M4, o', v', B', a', t', mv', c1, c2, h4, hm4, b1⟩ := hh.tail nn hm
    have r3 := rd M3 (kp M3 b1)
    have e0 : (((1 : Nat) : Int) == 0) = false := rfl
    have e1 : (((1 : Nat) : Int) == 1) = true := rfl
    simp only [Option.bind_some, List.getElem?_cons_zero, List.getElem?_cons_succ, int?_int, AVal.bool?, AVal.ptr?, AVal.sl?, AVal.tup?, AVal.agg?, AVal.ifc?, AVal.fn?, AVal.str?, List.head?_cons, List.tail_cons, List.isEmpty_nil, cond_true, cond_false, Option.isNone_some, Option.isNone_none, Bool.not_true, Bool.not_false, decide_true, decide_false, beq_self_eq_true, bne_self_eq_false, Int.reduceBEq, Int.reduceBNe, Int.cast_ofNat_Int, e0, e1, c1, r1, r3, c2] at hE
    exact ⟨M4, _, _, _, _, _, _, c12 hE, h4, hm4⟩
  · obtain ⟨x, e, c1, c2⟩ := hh.load at_ sz
    have e0 : (((2 : Nat) : Int) == 0) = false := rfl
    have e1 : (((2 : Nat) : Int) == 1) = false := rfl
    have e2 : (((2 : Nat) : Int) == 2) = true := rfl
    simp only [Option.bind_some, List.getElem?_cons_zero, List.getElem?_cons_succ, int?_int, AVal.bool?, AVal.ptr?, AVal.sl?, AVal.tup?, AVal.agg?, AVal.ifc?, AVal.fn?, AVal.str?, List.head?_cons, List.tail_cons, List.isEmpty_nil, cond_true, cond_false, Option.isNone_some, Option.isNone_none, Bool.not_true, Bool.not_false, decide_true, decide_false, beq_self_eq_true, bne_self_eq_false, Int.reduceBEq, Int.reduceBNe, Int.cast_ofNat_Int, e0, e1, e2] at hE
    have hE2 := p12_1_eq C prog.meth (some (p, 0)) (some (m, 0)) M.n M1
    simp only [Option.bind_some, List.getElem?_cons_zero, List.getElem?_cons_succ, int?_int, AVal.bool?, AVal.ptr?, AVal.sl?, AVal.tup?, AVal.agg?, AVal.ifc?, AVal.fn?, AVal.str?, List.head?_cons, List.tail_cons, List.isEmpty_nil, cond_true, cond_false, Option.isNone_some, Option.isNone_none, Bool.not_true, Bool.not_false, decide_true, decide_false, beq_self_eq_true, bne_self_eq_false, Int.reduceBEq, Int.reduceBNe, Int.cast_ofNat_Int, r1, c1, c2] at hE2
    exact ⟨M1, _, _, _, _, _, _, c12 (hE.trans hE2), hh, by omega⟩
  · obtain ⟨e, M3, M4, B', c1, c2, h4, b1⟩ := hh.store at_ sz hv
    have r3 := rd M3 (kp M3 b1)
    have e0 : (((3 : Nat) : Int) == 0) = false := rfl
    have e1 : (((3 : Nat) : Int) == 1) = false := rfl
    have e2 : (((3 : Nat) : Int) == 2) = false := rfl
    have e3 : (((3 : Nat) : Int) == 3) = true := rfl
    simp only [Option.bind_some, List.getElem?_cons_zero, List.getElem?_cons_succ, int?_int, AVal.bool?, AVal.ptr?, AVal.sl?, AVal.tup?, AVal.agg?, AVal.ifc?, AVal.fn?, AVal.str?, List.head?_cons, List.tail_cons, List.isEmpty_nil, cond_true, cond_false, Option.isNone_some, Option.isNone_none, Bool.not_true, Bool.not_false, decide_true, decide_false, beq_self_eq_true, bne_self_eq_false, Int.reduceBEq, Int.reduceBNe, Int.cast_ofNat_Int, e0, e1, e2, e3, c1, r1, r3, c2] at hE
    exact ⟨M4, _, _, _, _, _, _, c12 hE, h4, by omega⟩
  · obtain ⟨i, c1, hi, c2⟩ := PData_C hh.ip
    have hl := hh.ir.bs.len
    have hsz := hh.ip.sz
    have e0 : ((r : Int) == 0) = false := by simp; omega
    have e1 : ((r : Int) == 1) = false := by simp; omega
    have e2 : ((r : Int) == 2) = false := by simp; omega
    have e3 : ((r : Int) == 3) = false := by simp; omega
    have e4 : ((B.length : Int) != (v.2.1 : Int)) = false := by simp; omega
    simp only [Option.bind_some, List.getElem?_cons_zero, List.getElem?_cons_succ, int?_int, AVal.bool?, AVal.ptr?, AVal.sl?, AVal.tup?, AVal.agg?, AVal.ifc?, AVal.fn?, AVal.str?, List.head?_cons, List.tail_cons, List.isEmpty_nil, cond_true, cond_false, Option.isNone_some, Option.isNone_none, Bool.not_true, Bool.not_false, decide_true, decide_false, beq_self_eq_true, bne_self_eq_false, Int.reduceBEq, Int.reduceBNe, Int.cast_ofNat_Int, e0, e1, e2, e3, c1, Nat.zero_add, hh.ir.ld.1, e4, r1, cr] at hE
    by_cases h5 : r = 5
    · subst h5
      obtain ⟨M2, q1, u2⟩ := apart_C c2 hsz
      have e5 : (((5 : Nat) : Int) == 5) = true := rfl
      simp only [e5, cond_true] at hE
      exact ⟨M2, _, _, _, _, _, _, c12 (hE.trans q1), hh.upto u2, by omega⟩
    · have e5 : ((r : Int) == 5) = false := by simp; omega
      simp only [e5, cond_false] at hE
      by_cases ha : at_ ≥ 0
      rotate_left
      · simp only [ha, decide_false, cond_false] at hE
        exact ⟨M1, _, _, _, _, _, _, c12 hE, hh, by omega⟩
      by_cases ha2 : at_ < (B.length : Int)
      rotate_left
      · simp only [Option.bind_some, List.getElem?_cons_zero, List.getElem?_cons_succ, int?_int, AVal.bool?, AVal.ptr?, AVal.sl?, AVal.tup?, AVal.agg?, AVal.ifc?, AVal.fn?, AVal.str?, List.head?_cons, List.tail_cons, List.isEmpty_nil, cond_true, cond_false, Option.isNone_some, Option.isNone_none, Bool.not_true, Bool.not_false, decide_true, decide_false, beq_self_eq_true, bne_self_eq_false, Int.reduceBEq, Int.reduceBNe, Int.cast_ofNat_Int, ha, ha2] at hE
        exact ⟨M1, _, _, _, _, _, _, c12 hE, hh, by omega⟩
      obtain ⟨k, rfl⟩ : ∃ k : Nat, at_ = (k : Int) := ⟨at_.toNat, by omega⟩
      have hi := hi (by omega)
      subst hi
      obtain ⟨M2, s1, q1, n1, b1⟩ := hh.ip.put (k := k) (y := IntKind.wrap .u8 vv) (by omega)
      have b1' : Mem.But (· ∈ [p, o]) M1 M2 := b1.mono (fun x hx => by simp [hx])
      have r2 := rd M2 (kp M2 b1')
      have ir1 := hh.irn (p' := 0) (o' := 0) b1'
      obtain ⟨o2, M3, s2, s3, q2, n2, b2, f2⟩ := ir1.bs.put (i := k) (y := IntKind.wrap .u8 vv) (by omega)
      have ht1 : Nat.blt k B.length = true := Mem.blt_iff.2 (by omega)
      have ht2 : Nat.blt k v.2.1 = true := Mem.blt_iff.2 (by omega)
      have hp1 : slPtr (some (o, i)) (.known B.length) = some (o, i) := rfl
      simp only [Option.bind_some, List.getElem?_cons_zero, List.getElem?_cons_succ, int?_int, AVal.bool?, AVal.ptr?, AVal.sl?, AVal.tup?, AVal.agg?, AVal.ifc?, AVal.fn?, AVal.str?, List.head?_cons, List.tail_cons, List.isEmpty_nil, cond_true, cond_false, Option.isNone_some, Option.isNone_none, Bool.not_true, Bool.not_false, decide_true, decide_false, beq_self_eq_true, bne_self_eq_false, Int.reduceBEq, Int.reduceBNe, Int.cast_ofNat_Int, ha, ha2, Int.toNat_natCast, ht1, ht2, Nat.mul_one, Nat.zero_add, hp1, s1, ir1.ld.1, r2, s2, s3] at hE
      refine ⟨M3, _, _, _, _, _, _, c12 hE, hh.pair (p' := 0) (v' := v) q1 b1' (.inl rfl) ?_ (b2.mono (fun x hx => .inr (by rw [hx]; exact f2))) (fun x hx => .inl hx) (hh.wf.set _ (wrap_u8_lt _)), Nat.le_succ _⟩
      exact ⟨by rw [b2.2 m ir1.lt.1 (fun e => ir1.ne (by rw [e]; exact f2))]; exact ir1.gm, q2, ir1.ne, ir1.z, by simpa using ir1.sz, ir1.ra⟩
def turned (x : Int) : Int := IntKind.wrap .u8 ((BitVec.ofInt (IntKind.bits .u8) x ^^^ BitVec.ofInt (IntKind.bits .u8) 90).toNat)
/-- What the packet shows, behind the loop. -/
theorem shows_rest (h : PS M0 M p o m v B a t mv) {w y : SlV} (hy : Own1 M y B) :
    p13_2 C prog.meth (some (p, 0)) (some (m, 0)) w.1 w.2.1 w.2.2 y.1 y.2.1 y.2.2 (w.2.1 : Int) M = some (.bool true, M) := by
  have hE := p13_2_eq C prog.meth (some (p, 0)) (some (m, 0)) w.1 w.2.1 w.2.2 y.1 y.2.1 y.2.2 (w.2.1 : Int) M
  have h1 : ¬ ((w.2.1 : Int) < (w.2.1 : Int)) := by omega
  have hsz := h.ip.sz
  have hyl := hy.1
  have c1 := EqBytes_C (M := M) hy.bytes h.ir.bs.bytes (by omega)
  obtain ⟨i, c2, _, c3⟩ := PData_C h.ip
  have c4 := EqBytes_C (M := M) c3 h.ir.bs.bytes (by omega)
  have st := still1 (M := M) (o := m) (i := 0) (v := .sl v.1 v.2.1 v.2.2) (by rw [ld_fix h.ir.gm]; rfl)
  simp only [Option.bind_some, List.getElem?_cons_zero, List.getElem?_cons_succ, int?_int, AVal.bool?, AVal.ptr?, AVal.sl?, AVal.tup?, AVal.agg?, AVal.ifc?, AVal.fn?, AVal.str?, List.head?_cons, List.tail_cons, List.isEmpty_nil, cond_true, cond_false, Option.isNone_some, Option.isNone_none, Bool.not_true, Bool.not_false, decide_true, decide_false, beq_self_eq_true, bne_self_eq_false, Int.reduceBEq, Int.reduceBNe, Int.cast_ofNat_Int, h1, Nat.zero_add, h.ir.ld.1, c1, c2, c4, st] at hE
  exact hE
theorem shows_loop {y : SlV} {w : SlV} (hwl : w.2.1 ≤ 2 ^ 47) : ∀ (d j : Nat) (M : Mem) (zs : List Int), j + d = w.2.1 → Own1 M w zs → PS M0 M p o m v B a t mv → Own1 M y B → (∀ x ∈ fpS w, M0.n ≤ x ∧ x ≠ p ∧ x ≠ o ∧ x ≠ m ∧ x ∉ fpS v ∧ x ∉ fpS y) →
    ∃ M', p13_2 C prog.meth (some (p, 0)) (some (m, 0)) w.1 w.2.1 w.2.2 y.1 y.2.1 y.2.2 (j : Int) M = some (.bool true, M') ∧ PS M0 M' p o m v B a t mv := by
  intro d
  induction d with
  | zero =>
    intro j M zs hj ho h hy hs
    have : (j : Int) = (w.2.1 : Int) := by omega
    rw [this]
    exact ⟨M, shows_rest h hy, h⟩
  | succ d ih =>
    intro j M zs hj ho h hy hs
    have hE := p13_2_eq C prog.meth (some (p, 0)) (some (m, 0)) w.1 w.2.1 w.2.2 y.1 y.2.1 y.2.2 (j : Int) M
    obtain ⟨q, e1, e2, g⟩ := ho.2 (by omega)
    have hzl := ho.1
    have h0 : (0 : Int) ≤ (j : Int) := by omega
    have h1 : ((j : Int) < (w.2.1 : Int)) := by omega
    have h2 : Nat.blt j w.2.1 = true := Mem.blt_iff.2 (by omega)
    have hw : IntKind.wrap .i64 ((j : Int) + 1) = ((j + 1 : Nat) : Int) := by rw [wrap_i64 (by omega) (by omega)]; rfl
    have hsp : slPtr w.1 w.2.2 = some (q, 0) := by rw [e1, e2]; rfl
    have hld : M.ldI .u8 q j = some (zs[j]'(by omega)) := ldI_ld.2 (by rw [ld_grow g]; simp [List.getElem?_eq_getElem (show j < zs.length by omega)])
    have hst := st_grow (i := j) (vs := [.int .u8 (turned (zs[j]'(by omega)))]) g (by simp; omega)
    rw [overL_one, show (zs.map (AVal.int .u8)).set j (.int .u8 (turned (zs[j]'(by omega)))) = (zs.set j (turned (zs[j]'(by omega)))).map (AVal.int .u8) from by rw [List.map_set]] at hst
    have hst' : M.st q j [.int .u8 (IntKind.wrap .u8 ((BitVec.ofInt (IntKind.bits .u8) (zs[j]'(by omega)) ^^^ BitVec.ofInt (IntKind.bits .u8) 90).toNat))] = _ := hst
    simp only [Option.bind_some, List.getElem?_cons_zero, List.getElem?_cons_succ, int?_int, AVal.bool?, AVal.ptr?, AVal.sl?, AVal.tup?, AVal.agg?, AVal.ifc?, AVal.fn?, AVal.str?, List.head?_cons, List.tail_cons, List.isEmpty_nil, cond_true, cond_false, Option.isNone_some, Option.isNone_none, Bool.not_true, Bool.not_false, decide_true, decide_false, beq_self_eq_true, bne_self_eq_false, Int.reduceBEq, Int.reduceBNe, Int.cast_ofNat_Int, h1, h0, Int.toNat_natCast, h2, hsp, Nat.zero_add, Nat.mul_one, hld, hst', hw] at hE
    have hol := Mem.get_lt g
    have hof : q ∈ fpS w := by unfold fpS; rw [if_neg (by omega), e1]; simp [fpOf]
    have hb := Mem.But.put M q ⟨(zs.set j (turned (zs[j]'(by omega)))).map (AVal.int .u8), .grow 1⟩
    have hq := hs q hof
    obtain ⟨M', q1, q2⟩ := ih (j + 1) (M.put q ⟨(zs.set j (turned (zs[j]'(by omega)))).map (AVal.int .u8), .grow 1⟩) (zs.set j (turned (zs[j]'(by omega)))) (by omega) ⟨by simpa using hzl, fun _ => ⟨q, e1, e2, get_put_self hol⟩⟩
      (h.but hb (fun x hx => by subst hx; exact ⟨hq.1, hq.2.1, hq.2.2.1, hq.2.2.2.1, hq.2.2.2.2.1⟩)) (hy.same (fun x hx => get_put_ne (fun e => hq.2.2.2.2.2 (e ▸ hx)))) hs
    exact ⟨M', hE.trans q1, q2⟩
theorem shows_C (h : PS M0 M p o m v B a t mv) : ∃ M', C 13 [.ptr (some (p, 0)), .ptr (some (m, 0))] M = some (.bool true, M') ∧ PS M0 M' p o m v B a t mv := by
  have hE := p13_0_eq C prog.meth (some (p, 0)) (some (m, 0)) M
  have hsz := h.ip.sz
  have c0 := PRoom_C h.ip
  obtain ⟨M1, x, c1, u1, o1, f1⟩ := PBytes_C h.ip
  obtain ⟨M2, y, c2, u2, o2, f2⟩ := PBytes_C (h.upto u1).ip
  have h2 := (h.upto u1).upto u2
  have hl := h2.ir.bs.len
  have hxl := o1.1
  have c3 := PLen_C h2.ip
  have e3 : ((B.length : Int) != (v.2.1 : Int)) = false := by simp; omega
  have c4 := PMoves_C h2.ip
  have e4 : ((mv : Int) != (mv : Int)) = false := bne_self_eq_false _
  have e5 : ((a : Int) != (a : Int)) = false := bne_self_eq_false _
  have e6 : ((t : Int) != (t : Int)) = false := bne_self_eq_false _
  have c5 := EqBytes_C (M := M2) (o1.upto u2).bytes h2.ir.bs.bytes (by omega)
  obtain ⟨i, c6, _, c7⟩ := PData_C h2.ip
  have c8 := EqBytes_C (M := M2) c7 h2.ir.bs.bytes (by omega)
  have st := still1 (M := M2) (o := m) (i := 0) (v := .sl v.1 v.2.1 v.2.2) (by rw [ld_fix h2.ir.gm]; rfl)
  have st3 := still1 (M := M2) (o := m) (i := 3) (v := .int .i64 (mv : Int)) (by rw [ld_fix h2.ir.gm]; rfl)
  simp only [Option.bind_some, List.getElem?_cons_zero, List.getElem?_cons_succ, int?_int, AVal.bool?, AVal.ptr?, AVal.sl?, AVal.tup?, AVal.agg?, AVal.ifc?, AVal.fn?, AVal.str?, List.head?_cons, List.tail_cons, List.isEmpty_nil, cond_true, cond_false, Option.isNone_some, Option.isNone_none, Bool.not_true, Bool.not_false, decide_true, decide_false, beq_self_eq_true, bne_self_eq_false, Int.reduceBEq, Int.reduceBNe, Int.cast_ofNat_Int, c0, c1, c2, c3, Nat.zero_add, h2.ir.ld, e3, c4, e4, e5, e6, c5, c6, c8, st, st3] at hE
  have hE1 := p13_1_eq C prog.meth (some (p, 0)) (some (m, 0)) x.1 x.2.1 x.2.2 y.1 y.2.1 y.2.2 M2
  have hp := h.ip.lt
  have hr := h.ir.lt
  have hn := h.up.1
  have ox := o1.lt
  obtain ⟨M', q1, q2⟩ := shows_loop (y := y) (w := x) (by omega) x.2.1 0 M2 B (by omega) (o1.upto u2) h2 o2 (fun z hz => by
    have k1 := f1 z hz
    have k2 := ox z hz
    refine ⟨by omega, by omega, by omega, by omega, fun e => ?_, fun e => ?_⟩
    · have := hr.2 z e; omega
    · have := f2 z e; omega)
  exact ⟨M', c13 (hE.trans (hE1.trans q1)), q2⟩
end
theorem plays_loop {M0 : Mem} {a1 : Option (Nat × Nat)} {l1 : Nat} {cq : Cap} {p m : Nat} (hv : ArgRows M0 [.int .i64, .int .i64, .int .i64, .int .i64, .int .u64] a1 l1 cq) :
    ∀ (d i : Nat) (M : Mem) (o : Nat) (v : SlV) (B : List Int) (a t mv : Nat), i + d = 150 → mv ≤ i → PS M0 M p o m v B a t mv →
      ∃ M', p3_3 C prog.meth a1 l1 cq (some (p, 0)) (some (m, 0)) i M = some (.bool true, M') ∧ M0.Upto M' := by
  intro d
  induction d with
  | zero =>
    intro i M o v B a t mv hi hmv h
    have hE := p3_3_eq C prog.meth a1 l1 cq (some (p, 0)) (some (m, 0)) i M
    have h150 : ¬ ((i : Int) < 150) := by omega
    obtain ⟨M1, c1, h1⟩ := shows_C h
    obtain ⟨Ma, hawake⟩ := awake03_C
    simp only [Option.bind_some, List.getElem?_cons_zero, List.getElem?_cons_succ, int?_int, AVal.bool?, AVal.ptr?, AVal.sl?, AVal.tup?, AVal.agg?, AVal.ifc?, AVal.fn?, AVal.str?, List.head?_cons, List.tail_cons, List.isEmpty_nil, cond_true, cond_false, Option.isNone_some, Option.isNone_none, Bool.not_true, Bool.not_false, decide_true, decide_false, beq_self_eq_true, bne_self_eq_false, Int.reduceBEq, Int.reduceBNe, Int.cast_ofNat_Int, h150, c1, hawake] at hE
    exact ⟨M1, by rw [hE]; cases decide ((i : Int) < (l1 : Int)) <;> rfl, h1.up⟩
  | succ d ih =>
    intro i M o v B a t mv hi hmv h
    have hE := p3_3_eq C prog.meth a1 l1 cq (some (p, 0)) (some (m, 0)) i M
    by_cases hl1 : (i : Int) < (l1 : Int)
    rotate_left
    · obtain ⟨M1, c1, h1⟩ := shows_C h
      obtain ⟨Ma, hawake⟩ := awake03_C
      simp only [Option.bind_some, List.getElem?_cons_zero, List.getElem?_cons_succ, int?_int, AVal.bool?, AVal.ptr?, AVal.sl?, AVal.tup?, AVal.agg?, AVal.ifc?, AVal.fn?, AVal.str?, List.head?_cons, List.tail_cons, List.isEmpty_nil, cond_true, cond_false, Option.isNone_some, Option.isNone_none, Bool.not_true, Bool.not_false, decide_true, decide_false, beq_self_eq_true, bne_self_eq_false, Int.reduceBEq, Int.reduceBNe, Int.cast_ofNat_Int, hl1, c1, hawake] at hE
      exact ⟨M1, hE, h1.up⟩
    have h150 : ((i : Int) < 150) := by omega
    simp only [h150, hl1, decide_true, cond_true] at hE
    have hwi : IntKind.wrap .i64 ((i : Int) + 1) = ((i + 1 : Nat) : Int) := by rw [wrap_i64 (by omega) (by omega)]; rfl
    obtain ⟨s, vs, hs1, hsn, hs, hld⟩ := hv i (by omega)
    simp only [ShowsR, Shows] at hs
    obtain ⟨v0, w0, rfl, ⟨kd, rfl, wkd⟩, v1, w1, rfl, ⟨nn, rfl, wnn⟩, v2, w2, rfl, ⟨at_, rfl, wat⟩, v3, w3, rfl, ⟨sz, rfl, wsz⟩, v4, w4, rfl, ⟨vv, rfl, wvv⟩, rfl⟩ := hs
    have ld0 : M.ldI .i64 s.1 (s.2 + i * 5) = some kd := ldI_ld.2 (by simpa using hld M h.up 0 (by simp))
    have ld1 : M.ldI .i64 s.1 (s.2 + (i * 5 + 1)) = some nn := ldI_ld.2 (by simpa using hld M h.up 1 (by simp))
    have ld2 : M.ldI .i64 s.1 (s.2 + (i * 5 + (1 + 1))) = some at_ := ldI_ld.2 (by simpa using hld M h.up 2 (by simp))
    have ld3 : M.ldI .i64 s.1 (s.2 + (i * 5 + (1 + (1 + 1)))) = some sz := ldI_ld.2 (by simpa using hld M h.up 3 (by simp))
    have ld4 : M.ldI .u64 s.1 (s.2 + (i * 5 + (1 + (1 + (1 + 1))))) = some vv := ldI_ld.2 (by simpa using hld M h.up 4 (by simp))
    have h0 : (0 : Int) ≤ (i : Int) := by omega
    have h2 : Nat.blt i l1 = true := Mem.blt_iff.2 (by omega)
    have hE4 := p3_4_eq C prog.meth a1 l1 cq (some (p, 0)) (some (m, 0)) i M
    obtain ⟨M1, o', v', B', a', t', mv', c1, hd1, hm1⟩ := done_C h (by omega) (kd := kd) (nn := nn) (at_ := at_) (sz := sz) (u64_bounds wvv)
    obtain ⟨M2, c2, hd2⟩ := shows_C hd1
    simp only [Option.bind_some, List.getElem?_cons_zero, List.getElem?_cons_succ, int?_int, AVal.bool?, AVal.ptr?, AVal.sl?, AVal.tup?, AVal.agg?, AVal.ifc?, AVal.fn?, AVal.str?, List.head?_cons, List.tail_cons, List.isEmpty_nil, cond_true, cond_false, Option.isNone_some, Option.isNone_none, Bool.not_true, Bool.not_false, decide_true, decide_false, beq_self_eq_true, bne_self_eq_false, Int.reduceBEq, Int.reduceBNe, Int.cast_ofNat_Int, h0, Int.toNat_natCast, h2, hs1, Nat.add_assoc, ld0, ld1, ld2, ld3, ld4, c1, c2, hwi] at hE4
    obtain ⟨M', q, qu⟩ := ih (i + 1) M2 _ _ _ _ _ _ (by omega) (by omega) hd2
    exact ⟨M', hE.trans (hE4.trans q), qu⟩
/-- The bytes that were handed in are changed. -/
theorem in_loop {M0 : Mem} {a1 : Option (Nat × Nat)} {l1 : Nat} {cq : Cap} {p o m a t mv : Nat} {v w : SlV} {B : List Int} (hv : ArgRows M0 [.int .i64, .int .i64, .int .i64, .int .i64, .int .u64] a1 l1 cq) (hwl : w.2.1 ≤ 2 ^ 47) (hm : mv = 0) :
    ∀ (d j : Nat) (M : Mem) (zs : List Int), j + d = w.2.1 → Own1 M w zs → PS M0 M p o m v B a t mv → (∀ x ∈ fpS w, M0.n ≤ x ∧ x ≠ p ∧ x ≠ o ∧ x ≠ m ∧ x ∉ fpS v) →
    ∃ M', p3_2 C prog.meth a1 l1 cq w.1 w.2.1 w.2.2 (some (p, 0)) (some (m, 0)) (j : Int) M = some (.bool true, M') ∧ M0.Upto M' := by
  intro d
  induction d with
  | zero =>
    intro j M zs hj ho h hs
    have hE := p3_2_eq C prog.meth a1 l1 cq w.1 w.2.1 w.2.2 (some (p, 0)) (some (m, 0)) (j : Int) M
    have h1 : ¬ ((j : Int) < (w.2.1 : Int)) := by omega
    simp only [h1, decide_false, cond_false] at hE
    obtain ⟨M', q, qu⟩ := plays_loop hv 150 0 M _ _ _ _ _ _ (by omega) (by omega) h
    exact ⟨M', hE.trans q, qu⟩
  | succ d ih =>
    intro j M zs hj ho h hs
    have hE := p3_2_eq C prog.meth a1 l1 cq w.1 w.2.1 w.2.2 (some (p, 0)) (some (m, 0)) (j : Int) M
    obtain ⟨q, e1, e2, g⟩ := ho.2 (by omega)
    have hzl := ho.1
    have h0 : (0 : Int) ≤ (j : Int) := by omega
    have h1 : ((j : Int) < (w.2.1 : Int)) := by omega
    have h2 : Nat.blt j w.2.1 = true := Mem.blt_iff.2 (by omega)
    have hw : IntKind.wrap .i64 ((j : Int) + 1) = ((j + 1 : Nat) : Int) := by rw [wrap_i64 (by omega) (by omega)]; rfl
    have hsp : slPtr w.1 w.2.2 = some (q, 0) := by rw [e1, e2]; rfl
    have hld : M.ldI .u8 q j = some (zs[j]'(by omega)) := ldI_ld.2 (by rw [ld_grow g]; simp [List.getElem?_eq_getElem (show j < zs.length by omega)])
    have hst := st_grow (i := j) (vs := [.int .u8 (IntKind.wrap .u8 (zs[j]'(by omega) + 1))]) g (by simp; omega)
    rw [overL_one, show (zs.map (AVal.int .u8)).set j (.int .u8 (IntKind.wrap .u8 (zs[j]'(by omega) + 1))) = (zs.set j (IntKind.wrap .u8 (zs[j]'(by omega) + 1))).map (AVal.int .u8) from by rw [List.map_set]] at hst
    simp only [Option.bind_some, List.getElem?_cons_zero, List.getElem?_cons_succ, int?_int, AVal.bool?, AVal.ptr?, AVal.sl?, AVal.tup?, AVal.agg?, AVal.ifc?, AVal.fn?, AVal.str?, List.head?_cons, List.tail_cons, List.isEmpty_nil, cond_true, cond_false, Option.isNone_some, Option.isNone_none, Bool.not_true, Bool.not_false, decide_true, decide_false, beq_self_eq_true, bne_self_eq_false, Int.reduceBEq, Int.reduceBNe, Int.cast_ofNat_Int, h1, h0, Int.toNat_natCast, h2, hsp, Nat.zero_add, Nat.mul_one, hld, hst, hw] at hE
    have hol := Mem.get_lt g
    have hof : q ∈ fpS w := by unfold fpS; rw [if_neg (by omega), e1]; simp [fpOf]
    have hb := Mem.But.put M q ⟨(zs.set j (IntKind.wrap .u8 (zs[j]'(by omega) + 1))).map (AVal.int .u8), .grow 1⟩
    have hq := hs q hof
    obtain ⟨M', q1, qu⟩ := ih (j + 1) (M.put q ⟨(zs.set j (IntKind.wrap .u8 (zs[j]'(by omega) + 1))).map (AVal.int .u8), .grow 1⟩) (zs.set j (IntKind.wrap .u8 (zs[j]'(by omega) + 1))) (by omega) ⟨by simpa using hzl, fun _ => ⟨q, e1, e2, get_put_self hol⟩⟩
      (h.but hb (fun x hx => by subst hx; exact hq)) hs
    exact ⟨M', hE.trans q1, qu⟩
def newE (bl : Nat) : Int := if (bl : Int) > 2048 then 5 else 2
/-- Neither is made. -/
theorem PNewE {M : Mem} {ba : Option (Nat × Nat)} {bl : Nat} {bc : Cap} {hd tl : Int} (h : ¬ ((bl : Int) ≤ 2048 ∧ 0 ≤ hd ∧ hd ≤ 256 ∧ 0 ≤ tl ∧ tl ≤ 256)) : C 8 [.sl ba bl bc, .int .i64 hd, .int .i64 tl] M = some (.tup [.ptr none, .int .i64 (newE bl)], M) ∧ ∀ M, C 9 [.sl ba bl bc, .int .i64 hd, .int .i64 tl] M = some (.tup [.ptr none, .int .i64 (newE bl)], M) := by
  have hE := p8_0_eq C prog.meth ba bl bc hd tl M
  have hE2 := fun M => p9_0_eq C prog.meth ba bl bc hd tl M
  by_cases e1 : (bl : Int) > 2048
  · simp only [e1, decide_true, cond_true] at hE hE2
    have : newE bl = 5 := if_pos e1
    rw [this]
    exact ⟨c8 hE, fun M => c9 (hE2 M)⟩
  have : newE bl = 2 := if_neg e1
  rw [this]
  by_cases e2 : hd < 0
  · simp only [Option.bind_some, List.getElem?_cons_zero, List.getElem?_cons_succ, int?_int, AVal.bool?, AVal.ptr?, AVal.sl?, AVal.tup?, AVal.agg?, AVal.ifc?, AVal.fn?, AVal.str?, List.head?_cons, List.tail_cons, List.isEmpty_nil, cond_true, cond_false, Option.isNone_some, Option.isNone_none, Bool.not_true, Bool.not_false, decide_true, decide_false, beq_self_eq_true, bne_self_eq_false, Int.reduceBEq, Int.reduceBNe, Int.cast_ofNat_Int, e1, e2] at hE hE2
    exact ⟨c8 hE, fun M => c9 (hE2 M)⟩
  by_cases e3 : hd > 256
  · simp only [Option.bind_some, List.getElem?_cons_zero, List.getElem?_cons_succ, int?_int, AVal.bool?, AVal.ptr?, AVal.sl?, AVal.tup?, AVal.agg?, AVal.ifc?, AVal.fn?, AVal.str?, List.head?_cons, List.tail_cons, List.isEmpty_nil, cond_true, cond_false, Option.isNone_some, Option.isNone_none, Bool.not_true, Bool.not_false, decide_true, decide_false, beq_self_eq_true, bne_self_eq_false, Int.reduceBEq, Int.reduceBNe, Int.cast_ofNat_Int, e1, e2, e3] at hE hE2
    exact ⟨c8 hE, fun M => c9 (hE2 M)⟩
  by_cases e4 : tl < 0
  · simp only [Option.bind_some, List.getElem?_cons_zero, List.getElem?_cons_succ, int?_int, AVal.bool?, AVal.ptr?, AVal.sl?, AVal.tup?, AVal.agg?, AVal.ifc?, AVal.fn?, AVal.str?, List.head?_cons, List.tail_cons, List.isEmpty_nil, cond_true, cond_false, Option.isNone_some, Option.isNone_none, Bool.not_true, Bool.not_false, decide_true, decide_false, beq_self_eq_true, bne_self_eq_false, Int.reduceBEq, Int.reduceBNe, Int.cast_ofNat_Int, e1, e2, e3, e4] at hE hE2
    exact ⟨c8 hE, fun M => c9 (hE2 M)⟩
  by_cases e5 : tl > 256
  · simp only [Option.bind_some, List.getElem?_cons_zero, List.getElem?_cons_succ, int?_int, AVal.bool?, AVal.ptr?, AVal.sl?, AVal.tup?, AVal.agg?, AVal.ifc?, AVal.fn?, AVal.str?, List.head?_cons, List.tail_cons, List.isEmpty_nil, cond_true, cond_false, Option.isNone_some, Option.isNone_none, Bool.not_true, Bool.not_false, decide_true, decide_false, beq_self_eq_true, bne_self_eq_false, Int.reduceBEq, Int.reduceBNe, Int.cast_ofNat_Int, e1, e2, e3, e4, e5] at hE hE2
    exact ⟨c8 hE, fun M => c9 (hE2 M)⟩
  omega
theorem PacketPlays_C {M0 : Mem} {ba : Option (Nat × Nat)} {bl : Nat} {bc : Cap} {xs : List Int} {a1 : Option (Nat × Nat)} {l1 : Nat} {cq : Cap} {r0 r1 : Int} (hv : ArgRows M0 [.int .i64, .int .i64, .int .i64, .int .i64, .int .u64] a1 l1 cq) (hx : M0.ints .u8 ba bl bc = some xs) (hw : wfB xs) (hbl : bl ≤ 2 ^ 47) :
    ∃ M', C 3 [.sl ba bl bc, .agg [.int .i64 r0, .int .i64 r1], .sl a1 l1 cq] M0 = some (.bool true, M') ∧ M0.Upto M' := by
  have hE := p3_0_eq C prog.meth ba bl bc r0 r1 a1 l1 cq M0
  have u1 := Mem.Upto.alloc M0 ⟨[.int .i64 r0, .int .i64 r1], .fixed⟩
  have g1 := get_alloc_self M0 ⟨[.int .i64 r0, .int .i64 r1], .fixed⟩
  generalize M0.alloc ⟨[.int .i64 r0, .int .i64 r1], .fixed⟩ = M1 at hE u1 g1
  obtain ⟨M2, w, c2, u2, o2, f2⟩ := CopyBytes_O (ints_upto hx u1) hbl
  have rd : ∀ M3 : Mem, M3.get M0.n = some ⟨[.int .i64 r0, .int .i64 r1], .fixed⟩ → M3.ldI .i64 M0.n (0 + 0 * 1) = some r0 ∧ M3.ldI .i64 M0.n (0 + 1 * 1) = some r1 := fun M3 g => ⟨ldI_ld.2 (by rw [ld_fix g]; rfl), ldI_ld.2 (by rw [ld_fix g]; rfl)⟩
  have r2 := rd M2 (u2.get g1)
  have hwl := o2.1
  have hxl := ints_length hx
  by_cases hok : (bl : Int) ≤ 2048 ∧ 0 ≤ r0 ∧ r0 ≤ 256 ∧ 0 ≤ r1 ∧ r1 ≤ 256
  · obtain ⟨k0, rfl⟩ : ∃ k : Nat, r0 = (k : Int) := ⟨r0.toNat, by omega⟩
    obtain ⟨k1, rfl⟩ : ∃ k : Nat, r1 = (k : Int) := ⟨r1.toNat, by omega⟩
    obtain ⟨M3, k3, u3, q3⟩ := PNew_C (hd := k0) (tl := k1) o2.bytes (by omega) (by omega) (by omega)
    have r3 := rd M3 (u3.get (u2.get g1))
    have hx3 := ints_upto (ints_upto (ints_upto hx u1) u2) u3
    obtain ⟨M4, m, v, c4, u4, q4, f4, f5⟩ := RPNew_C (M := M3) (hd := k0) (tl := k1) hx3 (by omega) (by omega) (by omega)
    have o4 := (o2.upto u3).upto u4
    have c5 := EqBytes_C (M := M4) o4.bytes (ints_upto hx3 u4) (by omega)
    have hp3 := q3.lt
    have hn1 := u1.1
    have hn2 := u2.1
    have hwlt := o2.lt
    have hps : PS M0 M4 M2.n (M2.n + 1) m v xs k0 k1 0 := ⟨u1.trans (u2.trans (u3.trans u4)), q3.upto u4, q4, ⟨by omega, by omega, by omega, fun x hx => by have := f5 x hx; omega⟩, ⟨by omega, by omega, fun x hx => by have := f5 x hx; omega⟩, hw⟩
    simp only [Option.bind_some, List.getElem?_cons_zero, List.getElem?_cons_succ, int?_int, AVal.bool?, AVal.ptr?, AVal.sl?, AVal.tup?, AVal.agg?, AVal.ifc?, AVal.fn?, AVal.str?, List.head?_cons, List.tail_cons, List.isEmpty_nil, cond_true, cond_false, Option.isNone_some, Option.isNone_none, Bool.not_true, Bool.not_false, decide_true, decide_false, beq_self_eq_true, bne_self_eq_false, Int.reduceBEq, Int.reduceBNe, Int.cast_ofNat_Int, c2, r2, k3, r3, c4, c5] at hE
    have hE1 := p3_1_eq C prog.meth a1 l1 cq w.1 w.2.1 w.2.2 (some (M2.n, 0)) (some (m, 0)) 0 M4
    simp only [Option.bind_some, List.getElem?_cons_zero, List.getElem?_cons_succ, int?_int, AVal.bool?, AVal.ptr?, AVal.sl?, AVal.tup?, AVal.agg?, AVal.ifc?, AVal.fn?, AVal.str?, List.head?_cons, List.tail_cons, List.isEmpty_nil, cond_true, cond_false, Option.isNone_some, Option.isNone_none, Bool.not_true, Bool.not_false, decide_true, decide_false, beq_self_eq_true, bne_self_eq_false, Int.reduceBEq, Int.reduceBNe, Int.cast_ofNat_Int] at hE1
    obtain ⟨M', q, qu⟩ := in_loop (p := M2.n) (m := m) hv (by omega) rfl w.2.1 0 M4 xs (by omega) o4 hps (fun x hx => by
      have k1 := f2 x hx
      have k2 := hwlt x hx
      refine ⟨by omega, by omega, by omega, by omega, fun e => ?_⟩
      have := f5 x e; omega)
    exact ⟨M', c3 (hE.trans (hE1.trans q)), qu⟩
  · have hlw : w.2.1 = bl := by omega
    have k3 := (PNewE (M := M2) (ba := w.1) (bl := w.2.1) (bc := w.2.2) (hd := r0) (tl := r1) (by rw [hlw]; exact hok)).1
    have c4 := (PNewE (M := M2) (ba := ba) (bl := bl) (bc := bc) (hd := r0) (tl := r1) hok).2 M2
    rw [hlw] at k3
    have c5 := EqBytes_C (M := M2) o2.bytes (ints_upto (ints_upto hx u1) u2) (by omega)
    have e1 : (newE bl != newE bl) = false := bne_self_eq_false _
    have e2 : (newE bl != 0) = true := by unfold newE; split <;> rfl
    obtain ⟨Ma, hawake⟩ := awake03_C
    simp only [hlw] at c2 c5
    simp only [Option.bind_some, List.getElem?_cons_zero, List.getElem?_cons_succ, int?_int, AVal.bool?, AVal.ptr?, AVal.sl?, AVal.tup?, AVal.agg?, AVal.ifc?, AVal.fn?, AVal.str?, List.head?_cons, List.tail_cons, List.isEmpty_nil, cond_true, cond_false, Option.isNone_some, Option.isNone_none, Bool.not_true, Bool.not_false, decide_true, decide_false, beq_self_eq_true, bne_self_eq_false, Int.reduceBEq, Int.reduceBNe, Int.cast_ofNat_Int, c2, r2, k3, c4, e1, e2, c5] at hE
    have hE1 := p3_1_eq C prog.meth a1 l1 cq w.1 bl w.2.2 none none (newE bl) M2
    simp only [Option.bind_some, List.getElem?_cons_zero, List.getElem?_cons_succ, int?_int, AVal.bool?, AVal.ptr?, AVal.sl?, AVal.tup?, AVal.agg?, AVal.ifc?, AVal.fn?, AVal.str?, List.head?_cons, List.tail_cons, List.isEmpty_nil, cond_true, cond_false, Option.isNone_some, Option.isNone_none, Bool.not_true, Bool.not_false, decide_true, decide_false, beq_self_eq_true, bne_self_eq_false, Int.reduceBEq, Int.reduceBNe, Int.cast_ofNat_Int, e2, hawake] at hE1
    exact ⟨M2, c3 (hE.trans hE1), u1.trans u2⟩
theorem PacketPlays_law : ∀ avs M, M.Whole → okL M.n avs → ShowsArgs M [(false, [.sl 1 [.int .u8]]), (true, [.int .i64, .int .i64]), (false, [.sl 40 [.int .i64, .int .i64, .int .i64, .int .i64, .int .u64]])] avs → ∃ M', C 3 avs M = some (.bool true, M') := by
  intro avs M hM hok h
  simp only [ShowsArgs, ShowsArg] at h
  obtain ⟨v, _, rfl, ⟨t, ht, hv⟩, w, _, rfl, ⟨ws, rfl, hw⟩, z, _, rfl, ⟨t', ht', hz⟩, rfl⟩ := h
  obtain rfl : t = .sl 1 [.int .u8] := by simpa using ht.symm
  obtain rfl : t' = .sl 40 [.int .i64, .int .i64, .int .i64, .int .i64, .int .u64] := by simpa using ht'.symm
  obtain ⟨a, l, c, xs, rfl, hx, hl, hwf⟩ := hv.ints
  simp only [ShowsR, Shows] at hw
  obtain ⟨v1, w1, rfl, ⟨x, rfl, wx⟩, v2, w2, rfl, ⟨y, rfl, wy⟩, rfl⟩ := hw
  obtain ⟨a1, l1, c1, rfl, hl1⟩ := hz.form
  obtain ⟨M', q, _⟩ := PacketPlays_C (fun i hi => hz.row hi) hx (fun c hc => u8_bounds (hwf c hc)) (by simp [reachBytes] at hl; omega)
  exact ⟨M', q⟩
end Go.Proofs.Ytajchmkmlpchkaa.M
