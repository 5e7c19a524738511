/- PacketRoom. -/
import Derived.Test.YtajchmkmlpchkaaKL
set_option linter.unusedVariables false
set_option linter.unusedSimpArgs false
set_option linter.unnecessarySimpa false
set_option maxRecDepth 100000
namespace Go.Proofs.Ytajchmkmlpchkaa.M
open Go.Abs

theorem awake03_C : ∃ M', C 11 [] Mem.empty = some (.bool true, M') := whole_says (n := 400) (by kernel_rfl)
/-- The front of bytes of an argument. -/
theorem cut_arg {M M' : Mem} {a : Option (Nat × Nat)} {l n : Nat} {c : Cap} {bytes : Nat} {k kh : IntKind} {xs : List Int} (h : Shows M (.sl bytes [.int k]) (.sl a l c)) (hx : M.ints k a l c = some xs) (h0 : 0 < n) (hn : n ≤ l) (hu : M.Upto M') :
    (∀ {β : Type} (K : Option (Nat × Nat) → Nat → Cap → Option β), slcK false 1 a l c M' none (some (.int kh (n : Int))) none K = K a n c) ∧ M'.ints k a n c = some (xs.take n) := by
  have hx' := ints_upto hx hu
  refine ⟨fun K => ?_, ?_⟩
  · rw [Shows] at h
    rcases h with h | ⟨o, h⟩ | ⟨o, len, cells, h, h2, h3, h4, h5⟩
    · cases h; omega
    · cases h; omega
    · cases h
      exact slcK_own_to (hu.get h2) (.inr rfl) (by simp at h3; omega)
  · obtain ⟨e1, e2⟩ := ints_iff.1 hx'
    refine ints_iff.2 ⟨by simp; omega, fun i hi => ?_⟩
    obtain ⟨p, q1, q2⟩ := e2 i (by omega)
    exact ⟨p, q1, by rw [q2, List.getElem?_take, if_pos hi]⟩
/-- Two packets of the same bytes. -/
structure RS (M0 M : Mem) (p q : Nat) (o o2 : Nat) (B : List Int) (a t a2 t2 mv : Nat) : Prop where
  up : M0.Upto M
  ip : IsP M p o B a t mv
  iq : IsP M q o2 B a2 t2 mv
  nw : M0.n ≤ p ∧ M0.n ≤ q ∧ M0.n ≤ o ∧ M0.n ≤ o2
  ds : p ≠ q ∧ p ≠ o2 ∧ o ≠ q ∧ o ≠ o2
section
variable {M0 M M' : Mem} {p q o o2 : Nat} {B : List Int} {a t a2 t2 mv : Nat}
theorem RS.upto (h : RS M0 M p q o o2 B a t a2 t2 mv) (hu : M.Upto M') : RS M0 M' p q o o2 B a t a2 t2 mv := ⟨h.up.trans hu, h.ip.upto hu, h.iq.upto hu, h.nw, h.ds⟩
theorem headB_length {n : Int} (h : mayE B.length n = 0) : (headB B n).length ≤ 2048 := by
  unfold mayE at h
  split at h
  · omega
  · split at h
    · omega
    · unfold headB
      split <;> simp <;> omega
theorem tailB_length {n : Int} (h : mayE B.length n = 0) : (tailB B n).length ≤ 2048 := by
  unfold mayE at h
  split at h
  · omega
  · split at h
    · omega
    · unfold tailB
      split <;> simp <;> omega
/-- What both do. -/
theorem RS.head (h : RS M0 M p q o o2 B a t a2 t2 mv) (n : Int) (hm : mv < 2 ^ 62) :
    ∃ e M1 M2 o' o2' B' a' t' a2' t2' mv', C 15 [.ptr (some (p, 0)), .int .i64 n] M = some (.int .i64 e, M1) ∧ C 15 [.ptr (some (q, 0)), .int .i64 n] M1 = some (.int .i64 e, M2) ∧ RS M0 M2 p q o' o2' B' a' t' a2' t2' mv' ∧ mv' ≤ mv + 1 ∧ Mem.But (· ∈ [p, o]) M M1 ∧ Mem.But (· ∈ [q, o2]) M1 M2 := by
  have hp := h.ip.lt
  have hq := h.iq.lt
  have hds := h.ds
  have hnw := h.nw
  have hup := h.up.1
  rcases PHead_C h.ip n hm with ⟨e, c1⟩ | ⟨e, M1, o', c1, q1, n1, b1, f1⟩
  · rcases PHead_C h.iq n hm with ⟨_, c2⟩ | ⟨e', _⟩
    · exact ⟨_, _, _, _, _, _, _, _, _, _, _, c1, c2, h, by omega, Mem.But.refl _ _, Mem.But.refl _ _⟩
    · exact absurd e' e
  · have iq1 : IsP M1 q o2 B a2 t2 mv := h.iq.same (b1.2 q hq.1 (by simp; omega)) (b1.2 o2 hq.2 (by simp; omega))
    rcases PHead_C iq1 n hm with ⟨e', _⟩ | ⟨_, M2, o2', c2, q2, n2, b2, f2⟩
    · exact absurd e e'
    · have hl1 := q1.lt
      have ip2 := q1.same (b2.2 p hl1.1 (by simp; omega)) (b2.2 o' hl1.2 (by simp; omega))
      exact ⟨_, _, _, _, _, _, _, _, _, _, _, c1, c2, ⟨⟨by omega, fun x hx => by rw [b2.2 x (by omega) (by simp; omega), b1.2 x (by omega) (by simp; omega), h.up.2 x hx]⟩, ip2, q2, ⟨by omega, by omega, by omega, by omega⟩, ⟨by omega, by omega, by omega, by omega⟩⟩, Nat.le_refl _, b1, b2⟩
theorem RS.tail (h : RS M0 M p q o o2 B a t a2 t2 mv) (n : Int) (hm : mv < 2 ^ 62) :
    ∃ e M1 M2 o' o2' B' a' t' a2' t2' mv', C 16 [.ptr (some (p, 0)), .int .i64 n] M = some (.int .i64 e, M1) ∧ C 16 [.ptr (some (q, 0)), .int .i64 n] M1 = some (.int .i64 e, M2) ∧ RS M0 M2 p q o' o2' B' a' t' a2' t2' mv' ∧ mv' ≤ mv + 1 ∧ Mem.But (· ∈ [p, o]) M M1 ∧ Mem.But (· ∈ [q, o2]) M1 M2 := by
  have hp := h.ip.lt
  have hq := h.iq.lt
  have hds := h.ds
  have hnw := h.nw
  have hup := h.up.1
  rcases PTail_C h.ip n hm with ⟨e, c1⟩ | ⟨e, M1, o', c1, q1, n1, b1, f1⟩
  · rcases PTail_C h.iq n hm with ⟨_, c2⟩ | ⟨e', _⟩
    · exact ⟨_, _, _, _, _, _, _, _, _, _, _, c1, c2, h, by omega, Mem.But.refl _ _, Mem.But.refl _ _⟩
    · exact absurd e' e
  · have iq1 : IsP M1 q o2 B a2 t2 mv := h.iq.same (b1.2 q hq.1 (by simp; omega)) (b1.2 o2 hq.2 (by simp; omega))
    rcases PTail_C iq1 n hm with ⟨e', _⟩ | ⟨_, M2, o2', c2, q2, n2, b2, f2⟩
    · exact absurd e e'
    · have hl1 := q1.lt
      have ip2 := q1.same (b2.2 p hl1.1 (by simp; omega)) (b2.2 o' hl1.2 (by simp; omega))
      exact ⟨_, _, _, _, _, _, _, _, _, _, _, c1, c2, ⟨⟨by omega, fun x hx => by rw [b2.2 x (by omega) (by simp; omega), b1.2 x (by omega) (by simp; omega), h.up.2 x hx]⟩, ip2, q2, ⟨by omega, by omega, by omega, by omega⟩, ⟨by omega, by omega, by omega, by omega⟩⟩, Nat.le_refl _, b1, b2⟩
theorem RS.load (h : RS M0 M p q o o2 B a t a2 t2 mv) (at_ size : Int) :
    ∃ v e, C 17 [.ptr (some (p, 0)), .int .i64 at_, .int .i64 size] M = some (.tup [.int .u64 v, .int .i64 e], M) ∧ C 17 [.ptr (some (q, 0)), .int .i64 at_, .int .i64 size] M = some (.tup [.int .u64 v, .int .i64 e], M) := by
  rcases PLoad_C h.ip at_ size with ⟨e, c1⟩ | ⟨e, c1⟩
  · rcases PLoad_C h.iq at_ size with ⟨_, c2⟩ | ⟨e', _⟩
    · exact ⟨_, _, c1, c2⟩
    · exact absurd e' e
  · rcases PLoad_C h.iq at_ size with ⟨e', _⟩ | ⟨_, c2⟩
    · exact absurd e e'
    · exact ⟨_, _, c1, c2⟩
theorem RS.store (h : RS M0 M p q o o2 B a t a2 t2 mv) (at_ size v : Int) :
    ∃ e M1 M2 B', C 18 [.ptr (some (p, 0)), .int .i64 at_, .int .i64 size, .int .u64 v] M = some (.int .i64 e, M1) ∧ C 18 [.ptr (some (q, 0)), .int .i64 at_, .int .i64 size, .int .u64 v] M1 = some (.int .i64 e, M2) ∧ RS M0 M2 p q o o2 B' a t a2 t2 mv ∧ Mem.But (· ∈ [p, o]) M M1 ∧ Mem.But (· ∈ [q, o2]) M1 M2 := by
  have hp := h.ip.lt
  have hq := h.iq.lt
  have hds := h.ds
  have hnw := h.nw
  have hup := h.up.1
  rcases PStore_C h.ip at_ size v with ⟨e, c1⟩ | ⟨e, M1, c1, q1, n1, b1⟩
  · rcases PStore_C h.iq at_ size v with ⟨_, c2⟩ | ⟨e', _⟩
    · exact ⟨_, _, _, _, c1, c2, h, Mem.But.refl _ _, Mem.But.refl _ _⟩
    · exact absurd e' e
  · have iq1 : IsP M1 q o2 B a2 t2 mv := h.iq.same (b1.2 q hq.1 (by omega)) (b1.2 o2 hq.2 (by omega))
    rcases PStore_C iq1 at_ size v with ⟨e', _⟩ | ⟨_, M2, c2, q2, n2, b2⟩
    · exact absurd e e'
    · have hl1 := q1.lt
      have ip2 := q1.same (b2.2 p hl1.1 (by omega)) (b2.2 o hl1.2 (by omega))
      exact ⟨_, _, _, _, c1, c2, ⟨⟨by omega, fun x hx => by rw [b2.2 x (by omega) (by omega), b1.2 x (by omega) (by omega), h.up.2 x hx]⟩, ip2, q2, ⟨by omega, by omega, by omega, by omega⟩, ⟨by omega, by omega, by omega, by omega⟩⟩, b1.mono (fun x hx => by simp [hx]), b2.mono (fun x hx => by simp [hx])⟩
end
theorem room_loop {M0 : Mem} {a1 : Option (Nat × Nat)} {l1 : Nat} {cq : Cap} {p q : Nat} (hv : ArgRows M0 [.int .i64, .int .i64, .int .i64, .int .i64, .int .u64] a1 l1 cq) :
    ∀ (d i : Nat) (M : Mem) (o o2 : Nat) (B : List Int) (a t a2 t2 mv : Nat), i + d = 150 → mv ≤ i → RS M0 M p q o o2 B a t a2 t2 mv →
      ∃ M', p4_3 C prog.meth a1 l1 cq (some (p, 0)) (some (q, 0)) i M = some (.bool true, M') := by
  intro d
  induction d with
  | zero =>
    intro i M o o2 B a t a2 t2 mv hi hmv h
    have hE := p4_3_eq C prog.meth a1 l1 cq (some (p, 0)) (some (q, 0)) i M
    have h150 : ¬ ((i : Int) < 150) := by omega
    simp only [h150, decide_false, cond_false] at hE
    exact ⟨M, by rw [hE]; cases decide ((i : Int) < (l1 : Int)) <;> rfl⟩
  | succ d ih =>
    intro i M o o2 B a t a2 t2 mv hi hmv h
    have hE := p4_3_eq C prog.meth a1 l1 cq (some (p, 0)) (some (q, 0)) i M
    by_cases hl1 : (i : Int) < (l1 : Int)
    rotate_left
    · simp only [hl1, decide_false, cond_false] at hE
      exact ⟨M, hE⟩
    have h150 : ((i : Int) < 150) := by omega
    simp only [h150, hl1, decide_true, cond_true] at hE
    have hwi : IntKind.wrap .i64 ((i : Int) + 1) = ((i + 1 : Nat) : Int) := by rw [wrap_i64 (by omega) (by omega)]; rfl
    -- behind both
    have tail : ∀ (M : Mem) (o o2 : Nat) (B : List Int) (a t a2 t2 mv : Nat) (e v : Int), mv ≤ i + 1 → RS M0 M p q o o2 B a t a2 t2 mv → ∃ M', p4_5 C prog.meth a1 l1 cq (some (p, 0)) (some (q, 0)) i e e v v M = some (.bool true, M') := by
      intro M o o2 B a t a2 t2 mv e v hmv h
      have hE := p4_5_eq C prog.meth a1 l1 cq (some (p, 0)) (some (q, 0)) i e e v v M
      have n1 : (e != e) = false := bne_self_eq_false _
      have n2 : (v != v) = false := bne_self_eq_false _
      have n3 : ((mv : Int) != (mv : Int)) = false := bne_self_eq_false _
      have hsz := h.ip.sz
      obtain ⟨M1, x, c1, u1, o1, f1⟩ := PBytes_C h.ip
      obtain ⟨M2, y, c2, u2, o2', f2⟩ := PBytes_C (h.upto u1).iq
      have h2 := (h.upto u1).upto u2
      have hxl := o1.1
      have c3 := EqBytes_C (o1.upto u2).bytes o2'.bytes (by omega)
      have n4 : ¬ ((B.length : Int) > 2048) := by omega
      simp only [Option.bind_some, List.getElem?_cons_zero, List.getElem?_cons_succ, int?_int, AVal.bool?, AVal.ptr?, AVal.sl?, AVal.tup?, AVal.agg?, AVal.ifc?, AVal.fn?, AVal.str?, List.head?_cons, List.tail_cons, List.isEmpty_nil, cond_true, cond_false, Option.isNone_some, Option.isNone_none, Bool.not_true, Bool.not_false, decide_true, decide_false, beq_self_eq_true, bne_self_eq_false, Int.reduceBEq, Int.reduceBNe, Int.cast_ofNat_Int, n1, n2, PMoves_C h.ip, PMoves_C h.iq, n3, c1, c2, c3, PLen_C h2.ip, n4, hwi] at hE
      obtain ⟨M', q1⟩ := ih (i + 1) M2 o o2 B a t a2 t2 mv (by omega) hmv h2
      exact ⟨M', hE.trans q1⟩
    obtain ⟨s, vs, hs1, hsn, hs, hld⟩ := hv i (by omega)
    simp only [ShowsR, Shows] at hs
    obtain ⟨v0, w0, rfl, ⟨kd, rfl, wkd⟩, v1, w1, rfl, ⟨nn, rfl, wnn⟩, v2, w2, rfl, ⟨at_, rfl, wat⟩, v3, w3, rfl, ⟨sz, rfl, wsz⟩, v4, w4, rfl, ⟨vv, rfl, wvv⟩, rfl⟩ := hs
    have ld0 : M.ldI .i64 s.1 (s.2 + i * 5) = some kd := ldI_ld.2 (by simpa using hld M h.up 0 (by simp))
    have ld1 : M.ldI .i64 s.1 (s.2 + (i * 5 + 1)) = some nn := ldI_ld.2 (by simpa using hld M h.up 1 (by simp))
    have ld2 : M.ldI .i64 s.1 (s.2 + (i * 5 + (1 + 1))) = some at_ := ldI_ld.2 (by simpa using hld M h.up 2 (by simp))
    have ld3 : M.ldI .i64 s.1 (s.2 + (i * 5 + (1 + (1 + 1)))) = some sz := ldI_ld.2 (by simpa using hld M h.up 3 (by simp))
    have ld4 : M.ldI .u64 s.1 (s.2 + (i * 5 + (1 + (1 + (1 + 1))))) = some vv := ldI_ld.2 (by simpa using hld M h.up 4 (by simp))
    have h0 : (0 : Int) ≤ (i : Int) := by omega
    have h2 : Nat.blt i l1 = true := Mem.blt_iff.2 (by omega)
    have hE4 := p4_4_eq C prog.meth a1 l1 cq (some (p, 0)) (some (q, 0)) i M
    simp only [h0, decide_true, cond_true, Int.toNat_natCast, h2, hs1, Option.bind_some, Nat.add_assoc, ld0, ld1, ld2, ld3, ld4] at hE4
    have u1 := Mem.Upto.alloc M ⟨[.int .i64 0, .int .i64 0, .int .i64 0, .int .i64 0, .int .u64 0], .fixed⟩
    have g1 := get_alloc_self M ⟨[.int .i64 0, .int .i64 0, .int .i64 0, .int .i64 0, .int .u64 0], .fixed⟩
    generalize M.alloc ⟨[.int .i64 0, .int .i64 0, .int .i64 0, .int .i64 0, .int .u64 0], .fixed⟩ = M1 at hE4 u1 g1
    have hl := Mem.get_lt g1
    have hst := st_fix (i := 0) (vs := [.int .i64 kd, .int .i64 nn, .int .i64 at_, .int .i64 sz, .int .u64 vv]) g1 (by simp)
    have hov : overL [.int .i64 0, .int .i64 0, .int .i64 0, .int .i64 0, .int .u64 0] 0 [.int .i64 kd, .int .i64 nn, .int .i64 at_, .int .i64 sz, .int .u64 vv] = [.int .i64 kd, .int .i64 nn, .int .i64 at_, .int .i64 sz, .int .u64 vv] := rfl
    rw [hov] at hst
    have g2 : (M1.put M.n ⟨[.int .i64 kd, .int .i64 nn, .int .i64 at_, .int .i64 sz, .int .u64 vv], .fixed⟩).get M.n = some ⟨[.int .i64 kd, .int .i64 nn, .int .i64 at_, .int .i64 sz, .int .u64 vv], .fixed⟩ := get_put_self hl
    have u2 : M.Upto (M1.put M.n ⟨[.int .i64 kd, .int .i64 nn, .int .i64 at_, .int .i64 sz, .int .u64 vv], .fixed⟩) := ⟨u1.1, fun x hx => by rw [get_put_ne (by omega), u1.2 x hx]⟩
    generalize M1.put M.n ⟨[.int .i64 kd, .int .i64 nn, .int .i64 at_, .int .i64 sz, .int .u64 vv], .fixed⟩ = M2 at hst g2 u2
    have rd : ∀ M3 : Mem, M3.get M.n = some ⟨[.int .i64 kd, .int .i64 nn, .int .i64 at_, .int .i64 sz, .int .u64 vv], .fixed⟩ → M3.ldI .i64 M.n 0 = some kd ∧ M3.ldI .i64 M.n 1 = some nn ∧ M3.ldI .i64 M.n 2 = some at_ ∧ M3.ldI .i64 M.n 3 = some sz ∧ M3.ldI .u64 M.n 4 = some vv := fun M3 g => ⟨ldI_ld.2 (by rw [ld_fix g]; rfl), ldI_ld.2 (by rw [ld_fix g]; rfl), ldI_ld.2 (by rw [ld_fix g]; rfl), ldI_ld.2 (by rw [ld_fix g]; rfl), ldI_ld.2 (by rw [ld_fix g]; rfl)⟩
    have r2 := rd M2 g2
    have hh := h.upto u2
    obtain ⟨r, hr, cr⟩ := Bring_C (i := kd) (n := 4) (M := Mem.empty) (by omega) (by omega)
    have hnp : M.n ≠ p := by have := h.ip.lt; omega
    have hno : M.n ≠ o := by have := h.ip.lt; omega
    have hml := Mem.get_lt g2
    simp only [Option.bind_some, List.getElem?_cons_zero, List.getElem?_cons_succ, int?_int, AVal.bool?, AVal.ptr?, AVal.sl?, AVal.tup?, AVal.agg?, AVal.ifc?, AVal.fn?, AVal.str?, List.head?_cons, List.tail_cons, List.isEmpty_nil, cond_true, cond_false, Option.isNone_some, Option.isNone_none, Bool.not_true, Bool.not_false, decide_true, decide_false, beq_self_eq_true, bne_self_eq_false, Int.reduceBEq, Int.reduceBNe, Int.cast_ofNat_Int, hst, r2, cr] at hE4
    obtain rfl | rfl | rfl | rfl : r = 0 ∨ r = 1 ∨ r = 2 ∨ r = 3 := by omega
    · obtain ⟨e, M3, M4, o', o2', B', a', t', a2', t2', mv', c1, c2, h4, hm, b1, b2⟩ := hh.head nn (by omega)
      have r3 := rd M3 (b1.get g2 (by simp; omega))
      simp only [Option.bind_some, List.getElem?_cons_zero, List.getElem?_cons_succ, int?_int, AVal.bool?, AVal.ptr?, AVal.sl?, AVal.tup?, AVal.agg?, AVal.ifc?, AVal.fn?, AVal.str?, List.head?_cons, List.tail_cons, List.isEmpty_nil, cond_true, cond_false, Option.isNone_some, Option.isNone_none, Bool.not_true, Bool.not_false, decide_true, decide_false, beq_self_eq_true, bne_self_eq_false, Int.reduceBEq, Int.reduceBNe, Int.cast_ofNat_Int, Int.natCast_zero, c1, r3, c2] at hE4
      obtain ⟨M', q1⟩ := tail M4 o' o2' B' a' t' a2' t2' mv' e 0 (by omega) h4
      exact ⟨M', hE.trans (hE4.trans q1)⟩
    · obtain ⟨e, M3, M4, o', o2', B', a', t', a2', t2', mv', c1, c2, h4, hm, b1, b2⟩ := hh.tail nn (by omega)
      have r3 := rd M3 (b1.get g2 (by simp; omega))
      simp only [Option.bind_some, List.getElem?_cons_zero, List.getElem?_cons_succ, int?_int, AVal.bool?, AVal.ptr?, AVal.sl?, AVal.tup?, AVal.agg?, AVal.ifc?, AVal.fn?, AVal.str?, List.head?_cons, List.tail_cons, List.isEmpty_nil, cond_true, cond_false, Option.isNone_some, Option.isNone_none, Bool.not_true, Bool.not_false, decide_true, decide_false, beq_self_eq_true, bne_self_eq_false, Int.reduceBEq, Int.reduceBNe, Int.cast_ofNat_Int, Int.natCast_one, c1, r3, c2] at hE4
      obtain ⟨M', q1⟩ := tail M4 o' o2' B' a' t' a2' t2' mv' e 0 (by omega) h4
      exact ⟨M', hE.trans (hE4.trans q1)⟩
    · obtain ⟨v, e, c1, c2⟩ := hh.load at_ sz
      have e0 : (((2 : Nat) : Int) == 0) = false := rfl
      have e1 : (((2 : Nat) : Int) == 1) = false := rfl
      have e2 : (((2 : Nat) : Int) == 2) = true := rfl
      simp only [e0, e1, e2, cond_true, cond_false] at hE4
      have hE6 := p4_6_eq C prog.meth a1 l1 cq (some (p, 0)) (some (q, 0)) i M.n M2
      simp only [Option.bind_some, List.getElem?_cons_zero, List.getElem?_cons_succ, int?_int, AVal.bool?, AVal.ptr?, AVal.sl?, AVal.tup?, AVal.agg?, AVal.ifc?, AVal.fn?, AVal.str?, List.head?_cons, List.tail_cons, List.isEmpty_nil, cond_true, cond_false, Option.isNone_some, Option.isNone_none, Bool.not_true, Bool.not_false, decide_true, decide_false, beq_self_eq_true, bne_self_eq_false, Int.reduceBEq, Int.reduceBNe, Int.cast_ofNat_Int, r2, c1, c2] at hE6
      obtain ⟨M', q1⟩ := tail M2 o o2 B a t a2 t2 mv e v (by omega) hh
      exact ⟨M', hE.trans (hE4.trans (hE6.trans q1))⟩
    · obtain ⟨e, M3, M4, B', c1, c2, h4, b1, b2⟩ := hh.store at_ sz vv
      have r3 := rd M3 (b1.get g2 (by simp; omega))
      have e0 : (((3 : Nat) : Int) == 0) = false := rfl
      have e1 : (((3 : Nat) : Int) == 1) = false := rfl
      have e2 : (((3 : Nat) : Int) == 2) = false := rfl
      simp only [Option.bind_some, List.getElem?_cons_zero, List.getElem?_cons_succ, int?_int, AVal.bool?, AVal.ptr?, AVal.sl?, AVal.tup?, AVal.agg?, AVal.ifc?, AVal.fn?, AVal.str?, List.head?_cons, List.tail_cons, List.isEmpty_nil, cond_true, cond_false, Option.isNone_some, Option.isNone_none, Bool.not_true, Bool.not_false, decide_true, decide_false, beq_self_eq_true, bne_self_eq_false, Int.reduceBEq, Int.reduceBNe, Int.cast_ofNat_Int, e0, e1, e2, c1, r3, c2] at hE4
      obtain ⟨M', q1⟩ := tail M4 o o2 B' a t a2 t2 mv e 0 (by omega) h4
      exact ⟨M', hE.trans (hE4.trans q1)⟩
theorem room_rest {M0 M : Mem} {ba : Option (Nat × Nat)} {bl : Nat} {bc : Cap} {xs : List Int} {a1 : Option (Nat × Nat)} {l1 : Nat} {cq : Cap} {r0 r1 r2 r3 : Int} (hv : ArgRows M0 [.int .i64, .int .i64, .int .i64, .int .i64, .int .u64] a1 l1 cq) (hx : M.ints .u8 ba bl bc = some xs) (hl : bl ≤ 2048) (hu : M0.Upto M) {box : Nat} (hg : M.get box = some ⟨[.int .i64 r0, .int .i64 r1, .int .i64 r2, .int .i64 r3], .fixed⟩) :
    ∃ M', p4_1 C prog.meth ba bl bc a1 l1 cq box M = some (.bool true, M') := by
  have hE := p4_1_eq C prog.meth ba bl bc a1 l1 cq box M
  obtain ⟨s0, h0, b0⟩ := Bring_C (i := r0) (n := 257) (M := Mem.empty) (by omega) (by omega)
  obtain ⟨s1, h1, b1⟩ := Bring_C (i := r1) (n := 257) (M := Mem.empty) (by omega) (by omega)
  obtain ⟨s2, h2, b2⟩ := Bring_C (i := r2) (n := 257) (M := Mem.empty) (by omega) (by omega)
  obtain ⟨s3, h3, b3⟩ := Bring_C (i := r3) (n := 257) (M := Mem.empty) (by omega) (by omega)
  have i0 : M.ldI .i64 box (0 + 0 * 1) = some r0 := ldI_ld.2 (by rw [ld_fix hg]; rfl)
  have i1 : M.ldI .i64 box (0 + 1 * 1) = some r1 := ldI_ld.2 (by rw [ld_fix hg]; rfl)
  obtain ⟨M1, c1, u1, q1⟩ := PNew_C (hd := s0) (tl := s1) hx hl (by omega) (by omega)
  have hg1 := u1.get hg
  have i2 : M1.ldI .i64 box (0 + 2 * 1) = some r2 := ldI_ld.2 (by rw [ld_fix hg1]; rfl)
  have i3 : M1.ldI .i64 box (0 + 3 * 1) = some r3 := ldI_ld.2 (by rw [ld_fix hg1]; rfl)
  obtain ⟨M2, c2, u2, q2⟩ := PNew_C (hd := s2) (tl := s3) (ints_upto hx u1) hl (by omega) (by omega)
  simp only [Option.bind_some, List.getElem?_cons_zero, List.getElem?_cons_succ, int?_int, AVal.bool?, AVal.ptr?, AVal.sl?, AVal.tup?, AVal.agg?, AVal.ifc?, AVal.fn?, AVal.str?, List.head?_cons, List.tail_cons, List.isEmpty_nil, cond_true, cond_false, Option.isNone_some, Option.isNone_none, Bool.not_true, Bool.not_false, decide_true, decide_false, beq_self_eq_true, bne_self_eq_false, Int.reduceBEq, Int.reduceBNe, Int.cast_ofNat_Int, i0, b0, i1, b1, c1, i2, b2, i3, b3, c2] at hE
  have hE2 := p4_2_eq C prog.meth a1 l1 cq (some (M.n, 0)) (some (M1.n, 0)) M2
  have hq1 := q1.lt
  have hun := hu.1
  have h : RS M0 M2 M.n M1.n (M.n + 1) (M1.n + 1) xs s0 s1 s2 s3 0 := ⟨hu.trans (u1.trans u2), q1.upto u2, q2, ⟨by omega, by omega, by omega, by omega⟩, ⟨by omega, by omega, by omega, by omega⟩⟩
  obtain ⟨M', q⟩ := room_loop hv 150 0 M2 _ _ _ _ _ _ _ 0 (by omega) (by omega) h
  exact ⟨M', hE.trans (hE2.trans q)⟩
theorem PacketRoom_C {M0 : Mem} {ba : Option (Nat × Nat)} {bl : Nat} {bc : Cap} {xs : List Int} {a1 : Option (Nat × Nat)} {l1 : Nat} {cq : Cap} {r0 r1 r2 r3 : Int} (hv : ArgRows M0 [.int .i64, .int .i64, .int .i64, .int .i64, .int .u64] a1 l1 cq) (hs : Shows M0 (.sl 1 [.int .u8]) (.sl ba bl bc)) (hx : M0.ints .u8 ba bl bc = some xs) :
    ∃ M', C 4 [.sl ba bl bc, .agg [.int .i64 r0, .int .i64 r1, .int .i64 r2, .int .i64 r3], .sl a1 l1 cq] M0 = some (.bool true, M') := by
  have hE := p4_0_eq C prog.meth ba bl bc r0 r1 r2 r3 a1 l1 cq M0
  obtain ⟨Ma, hawake⟩ := awake03_C
  have u1 := Mem.Upto.alloc M0 ⟨[.int .i64 r0, .int .i64 r1, .int .i64 r2, .int .i64 r3], .fixed⟩
  have g1 := get_alloc_self M0 ⟨[.int .i64 r0, .int .i64 r1, .int .i64 r2, .int .i64 r3], .fixed⟩
  generalize M0.alloc ⟨[.int .i64 r0, .int .i64 r1, .int .i64 r2, .int .i64 r3], .fixed⟩ = M1 at hE u1 g1
  by_cases hl : (bl : Int) > 2048
  · obtain ⟨k1, k2⟩ := cut_arg (n := 2048) (kh := .i64) hs hx (by omega) (by omega) u1
    have k1' : ∀ {β : Type} (K : Option (Nat × Nat) → Nat → Cap → Option β), slcK false 1 ba bl bc M1 none (some (.int .i64 2048)) none K = K ba 2048 bc := fun K => k1 K
    simp only [Option.bind_some, List.getElem?_cons_zero, List.getElem?_cons_succ, int?_int, AVal.bool?, AVal.ptr?, AVal.sl?, AVal.tup?, AVal.agg?, AVal.ifc?, AVal.fn?, AVal.str?, List.head?_cons, List.tail_cons, List.isEmpty_nil, cond_true, cond_false, Option.isNone_some, Option.isNone_none, Bool.not_true, Bool.not_false, decide_true, decide_false, beq_self_eq_true, bne_self_eq_false, Int.reduceBEq, Int.reduceBNe, Int.cast_ofNat_Int, hawake, hl, k1'] at hE
    obtain ⟨M', q⟩ := room_rest hv k2 (Nat.le_refl _) u1 g1
    exact ⟨M', c4 (hE.trans q)⟩
  · simp only [Option.bind_some, List.getElem?_cons_zero, List.getElem?_cons_succ, int?_int, AVal.bool?, AVal.ptr?, AVal.sl?, AVal.tup?, AVal.agg?, AVal.ifc?, AVal.fn?, AVal.str?, List.head?_cons, List.tail_cons, List.isEmpty_nil, cond_true, cond_false, Option.isNone_some, Option.isNone_none, Bool.not_true, Bool.not_false, decide_true, decide_false, beq_self_eq_true, bne_self_eq_false, Int.reduceBEq, Int.reduceBNe, Int.cast_ofNat_Int, hawake, hl] at hE
    obtain ⟨M', q⟩ := room_rest hv (ints_upto hx u1) (by omega) u1 g1
    exact ⟨M', c4 (hE.trans q)⟩
theorem PacketRoom_law : ∀ avs M, M.Whole → okL M.n avs → ShowsArgs M [(false, [.sl 1 [.int .u8]]), (true, [.int .i64, .int .i64, .int .i64, .int .i64]), (false, [.sl 40 [.int .i64, .int .i64, .int .i64, .int .i64, .int .u64]])] avs → ∃ M', C 4 avs M = some (.bool true, M') := by
  intro avs M hM hok h
  simp only [ShowsArgs, ShowsArg] at h
  obtain ⟨v, _, rfl, ⟨t, ht, hv⟩, w, _, rfl, ⟨ws, rfl, hw⟩, z, _, rfl, ⟨t', ht', hz⟩, rfl⟩ := h
  obtain rfl : t = .sl 1 [.int .u8] := by simpa using ht.symm
  obtain rfl : t' = .sl 40 [.int .i64, .int .i64, .int .i64, .int .i64, .int .u64] := by simpa using ht'.symm
  obtain ⟨a, l, c, xs, rfl, hx, hl, hwf⟩ := hv.ints
  simp only [ShowsR, Shows] at hw
  obtain ⟨v1, w1, rfl, ⟨x, rfl, wx⟩, v2, w2, rfl, ⟨y, rfl, wy⟩, v3, w3, rfl, ⟨x3, rfl, wx3⟩, v4, w4, rfl, ⟨x4, rfl, wx4⟩, rfl⟩ := hw
  obtain ⟨a1, l1, c1, rfl, hl1⟩ := hz.form
  exact PacketRoom_C (fun i hi => hz.row hi) hv hx
end Go.Proofs.Ytajchmkmlpchkaa.M
