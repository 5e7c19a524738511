/- LeaseBounds: where the arguments are small. -/
import Derived.Test.YtndolnehppadnaaLC
set_option linter.unusedVariables false
set_option linter.unusedSimpArgs false
set_option linter.unnecessarySimpa false
namespace Go.Proofs.Ytndolnehppadnaa.M
open Go.Abs

abbrev bytesOf (xs : List Int) : List AVal := xs.map (.int .u8)
/-- The window, or what has become of it: within: from at on, of the bytes' object; else: what lies at an object's end. -/
inductive Held (M : Mem) (ok : Nat → Prop) (io e : Nat) : Bool → Nat → Option (Nat × Nat) → Nat → Cap → Prop
  | inn {at_ wl : Nat} {wa : Option (Nat × Nat)} (h1 : at_ + wl ≤ e) (h2 : 0 < e - at_ → wa = some (io, at_)) : Held M ok io e true at_ wa wl (.known (e - at_))
  | out {at_ wl : Nat} (q f : Nat) (cs : List AVal) (h1 : M.get q = some ⟨cs, .grow 1⟩) (h2 : f + wl = cs.length) (h3 : ok q) : Held M ok io e false at_ (some (q, f)) wl (.unk f)
  | fin {at_ : Nat} (q k d f : Nat) (cs : List AVal) (h1 : M.get q = some ⟨cs, .grow 1⟩) (h2 : k = cs.length) (h4 : f + d = k) (h3 : ok q) : Held M ok io e false at_ (some (q, f)) 0 (.fin k d)
structure BInv (M0 M : Mem) (bx io wo A N l : Nat) (ia : Option (Nat × Nat)) (ic : Cap) (ya : Option (Nat × Nat)) (yc : Cap) (xs zs : List Int) (ins : Bool) (at_ : Nat) (wa : Option (Nat × Nat)) (wl : Nat) (wc : Cap) : Prop where
  up : M0.Upto M
  box : M.get bx = some ⟨[.int .i64 (A : Int), .int .i64 (N : Int)], .fixed⟩
  bxl : M0.n ≤ bx
  inn : InOk M ia l ic zs
  want : InOk M ya l yc zs
  hio : ∀ o ∈ fpOf ia, o = io ∧ M0.n ≤ o
  hwo : ∀ o ∈ fpOf ya, o = wo ∧ M0.n ≤ o
  ne : io ≠ wo ∧ io ≠ bx ∧ wo ≠ bx ∧ io < M.n ∧ wo < M.n
  same : ∀ j, (j < A ∨ A + N ≤ j) → zs[j]? = xs[j]?
  held : Held M (fun q => M0.n ≤ q ∧ q ≠ io ∧ q ≠ wo ∧ q ≠ bx) io (A + N) ins at_ wa wl wc
  lo : A ≤ at_ ∧ at_ ≤ A + N
section
variable {M0 M : Mem} {bx io wo A N l : Nat} {ia : Option (Nat × Nat)} {ic : Cap} {ya : Option (Nat × Nat)} {yc : Cap} {xs zs : List Int} {ins : Bool} {at_ : Nat} {wa : Option (Nat × Nat)} {wl : Nat} {wc : Cap}
theorem InOk.obj (h : InOk M ia l ic zs) (hl : 0 < l) (hq : ∀ o ∈ fpOf ia, o = io ∧ M0.n ≤ o) : ia = some (io, 0) ∧ ic = .unk 0 ∧ M.get io = some ⟨bytesOf zs, .grow 1⟩ ∧ M0.n ≤ io := by
  obtain ⟨h0, ⟨_, _, h1⟩ | ⟨o, rfl, h2, h3⟩⟩ := h
  · omega
  · obtain ⟨rfl, h4⟩ := hq o (by simp [fpOf])
    exact ⟨rfl, h2, h3, h4⟩
theorem get_mono {M M' : Mem} {q : Nat} {x : AObj} (h : M.get q = some x) (hg : M'.get q = M.get q) : M'.get q = some x := hg.trans h
/-- A byte of the held slice is written; within the window it is written into the other bytes too. -/
theorem BInv.write {v : Int} {to : Nat} (h : BInv M0 M bx io wo A N l ia ic ya yc xs zs ins at_ wa wl wc) (hAN : A + N ≤ l) (hto : to < wl) :
    ∃ p M1, slPtr wa wc = some p ∧ M.st p.1 (p.2 + to) [.int .u8 v] = some M1 ∧ M1.n = M.n ∧ M0.Upto M1 ∧ (∀ q, M0.n ≤ q → q ≠ p.1 → M1.get q = M.get q) ∧ M0.n ≤ p.1 ∧ p.1 ≠ bx ∧
      (ins = false → BInv M0 M1 bx io wo A N l ia ic ya yc xs zs ins at_ wa wl wc) ∧
      (ins = true → ∃ p2 M2, slPtr ya yc = some p2 ∧ M1.st p2.1 (p2.2 + (at_ + to)) [.int .u8 v] = some M2 ∧ at_ + to < l ∧ BInv M0 M2 bx io wo A N l ia ic ya yc xs (zs.set (at_ + to) v) ins at_ wa wl wc) := by
  have hup := h.up.1
  cases hh : h.held with
  | inn h1 h2 =>
    have hl0 : 0 < l := by omega
    obtain rfl := h2 (by omega)
    obtain ⟨rfl, rfl, g1, f1⟩ := h.inn.obj hl0 h.hio
    obtain ⟨rfl, rfl, g2, f2⟩ := h.want.obj hl0 h.hwo
    have hzl := h.inn.1
    have hst := st_grow (i := at_ + to) (vs := [.int .u8 v]) g1 (by simp [bytesOf]; omega)
    rw [overL_one, show (bytesOf zs).set (at_ + to) (.int .u8 v) = bytesOf (zs.set (at_ + to) v) from by simp [bytesOf, List.map_set]] at hst
    have hio := Mem.get_lt g1
    refine ⟨(io, at_), _, rfl, hst, rfl, ⟨hup, fun q hq => by rw [get_put_ne (by omega), h.up.2 q hq]⟩, fun q hq hne => get_put_ne hne, f1, h.ne.2.1, (fun hf => by cases hf), fun _ => ?_⟩
    have g2' : (M.put io ⟨bytesOf (zs.set (at_ + to) v), .grow 1⟩).get wo = some ⟨bytesOf zs, .grow 1⟩ := (get_put_ne (fun e => h.ne.1 e.symm)).trans g2
    have hst2 := st_grow (i := at_ + to) (vs := [.int .u8 v]) g2' (by simp [bytesOf]; omega)
    rw [overL_one, show (bytesOf zs).set (at_ + to) (.int .u8 v) = bytesOf (zs.set (at_ + to) v) from by simp [bytesOf, List.map_set]] at hst2
    refine ⟨(wo, 0), (M.put io ⟨bytesOf (zs.set (at_ + to) v), .grow 1⟩).put wo ⟨bytesOf (zs.set (at_ + to) v), .grow 1⟩, rfl, by rw [Nat.zero_add]; exact hst2, by omega, ⟨hup, fun q hq => by rw [get_put_ne (by omega), get_put_ne (by omega), h.up.2 q hq]⟩, ?_, h.bxl, ⟨by simpa using hzl, .inr ⟨io, rfl, rfl, ?_⟩⟩, ⟨by simpa using hzl, .inr ⟨wo, rfl, rfl, get_put_self (by simpa using h.ne.2.2.2.2)⟩⟩, h.hio, h.hwo, h.ne, fun j hj => ?_, .inn h1 h2, h.lo⟩
    · rw [get_put_ne (fun e => h.ne.2.2.1 e.symm), get_put_ne (fun e => h.ne.2.1 e.symm)]; exact h.box
    · rw [get_put_ne h.ne.1, get_put_self hio]
    · rw [List.getElem?_set, if_neg (by have := h.lo; omega)]
      exact h.same j hj
  | out q f cs h1 h2 h3 =>
    have hq := Mem.get_lt h1
    have hst := st_grow (i := f + to) (vs := [.int .u8 v]) h1 (by simp; omega)
    obtain ⟨k0, k1, k2, k3⟩ := h3
    refine ⟨(q, f), _, rfl, hst, rfl, ⟨hup, fun r hr => by rw [get_put_ne (by omega), h.up.2 r hr]⟩, fun r hr hne => get_put_ne hne, k0, k3, fun _ => ?_, fun hf => by cases hf⟩
    refine ⟨⟨hup, fun r hr => by rw [get_put_ne (by omega), h.up.2 r hr]⟩, (get_put_ne (fun e => k3 e.symm)).trans h.box, h.bxl, h.inn.same (fun o ho => get_put_ne (fun e => k1 (by rw [← e]; exact (h.hio o ho).1))), h.want.same (fun o ho => get_put_ne (fun e => k2 (by rw [← e]; exact (h.hwo o ho).1))), h.hio, h.hwo, h.ne, h.same, .out _ _ _ (get_put_self hq) (by rw [overL_length _ _ _ (by simp; omega)]; exact h2) ⟨k0, k1, k2, k3⟩, h.lo⟩
  | fin q k d f cs h1 h2 h4 h3 => omega
/-- What leaves all that is known as it is. -/
theorem BInv.upto {M' : Mem} (h : BInv M0 M bx io wo A N l ia ic ya yc xs zs ins at_ wa wl wc) (hu : M.Upto M') : BInv M0 M' bx io wo A N l ia ic ya yc xs zs ins at_ wa wl wc := by
  refine ⟨h.up.trans hu, hu.get h.box, h.bxl, h.inn.same (fun o ho => hu.2 o (h.inn.lt o ho)), h.want.same (fun o ho => hu.2 o (h.want.lt o ho)), h.hio, h.hwo, ⟨h.ne.1, h.ne.2.1, h.ne.2.2.1, by have := hu.1; have := h.ne.2.2.2.1; omega, by have := hu.1; have := h.ne.2.2.2.2; omega⟩, h.same, ?_, h.lo⟩
  cases h.held with
  | inn h1 h2 => exact .inn h1 h2
  | out q f cs h1 h2 h3 => exact .out _ _ _ (hu.get h1) h2 h3
  | fin q k d f cs h1 h2 h4 h3 => exact .fin _ _ _ _ _ (hu.get h1) h2 h4 h3
end
theorem bounds_write {M0 : Mem} {b1 : Option (Nat × Nat)} {b2 : Nat} {b3 : Cap} {d1 : Option (Nat × Nat)} {d2 : Nat} {d3 : Cap} {bx io wo A N l : Nat} {ia : Option (Nat × Nat)} {ic : Cap} {ya : Option (Nat × Nat)} {yc : Cap} {xs : List Int} {ins : Bool} {at_ : Nat} {wa : Option (Nat × Nat)} {wl : Nat} {wc : Cap} {i0 kind xat : Int} {dx : Nat} {ba : Option (Nat × Nat)} {bl : Nat} {bc : Cap} {bs : List Int}
    (hAN : A + N ≤ l) (hl : l < 2 ^ 47) (hwl : wl < 2 ^ 40) (hbl : bl < 2 ^ 40) (hbs : M0.ints .u8 ba bl bc = some bs) (hdx : M0.n ≤ dx) :
    ∀ (d k : Nat) (M : Mem) (zs : List Int), k + d = bl → BInv M0 M bx io wo A N l ia ic ya yc xs zs ins at_ wa wl wc → M.get dx = some ⟨[.int .u8 kind, .int .i64 xat, .sl ba bl bc], .fixed⟩ →
      ∃ M' zs', p4_9 C prog.meth b1 b2 b3 d1 d2 d3 bx ia l ic ya l yc wa wl wc at_ ins i0 dx k M = p4_8 C prog.meth b1 b2 b3 d1 d2 d3 bx ia l ic ya l yc wa wl wc at_ ins i0 M' ∧ BInv M0 M' bx io wo A N l ia ic ya yc xs zs' ins at_ wa wl wc := by
  intro d
  induction d with
  | zero =>
    intro k M zs hk h hd
    have hE := p4_9_eq C prog.meth b1 b2 b3 d1 d2 d3 bx ia l ic ya l yc wa wl wc at_ ins i0 dx k M
    have h1 : ¬ ((k : Int) < (bl : Int)) := by omega
    have e1 : M.ldL dx 2 = some (ba, bl, bc) := by simp [Mem.ldL, Mem.ld, Mem.cells, hd, AObj.live, AVal.sl?]
    simp only [Option.bind_some, List.getElem?_cons_zero, List.getElem?_cons_succ, int?_int, AVal.bool?, AVal.ptr?, AVal.sl?, AVal.tup?, AVal.agg?, AVal.ifc?, AVal.fn?, AVal.str?, List.head?_cons, List.tail_cons, List.isEmpty_nil, cond_true, cond_false, Option.isNone_some, Option.isNone_none, Bool.not_true, Bool.not_false, decide_true, decide_false, beq_self_eq_true, bne_self_eq_false, Int.reduceBEq, Int.reduceBNe, Int.cast_ofNat_Int, e1, h1] at hE
    exact ⟨M, zs, hE, h⟩
  | succ d ih =>
    intro k M zs hk h hd
    have hE := p4_9_eq C prog.meth b1 b2 b3 d1 d2 d3 bx ia l ic ya l yc wa wl wc at_ ins i0 dx k M
    have h0 : (0 : Int) ≤ (k : Int) := by omega
    have h1 : ((k : Int) < (bl : Int)) := by omega
    have h2 : Nat.blt k bl = true := Mem.blt_iff.2 (by omega)
    have hdl := Mem.get_lt hd
    have e1 : M.ldL dx 2 = some (ba, bl, bc) := by simp [Mem.ldL, Mem.ld, Mem.cells, hd, AObj.live, AVal.sl?]
    have e2 : M.ldI .i64 dx 1 = some xat := by simp [Mem.ldI, Mem.ld, Mem.cells, hd, AObj.live]
    have hw1 : IntKind.wrap .i64 ((wl : Int) + 1) = ((wl + 1 : Nat) : Int) := by rw [wrap_i64 (by omega) (by omega)]; rfl
    have hw2 : IntKind.wrap .i64 ((k : Int) + 1) = ((k + 1 : Nat) : Int) := by rw [wrap_i64 (by omega) (by omega)]; rfl
    obtain ⟨r, hr, cr⟩ := Bring_C (i := xat) (n := ((wl + 1 : Nat) : Int)) (M := Mem.empty) (by omega) (by omega)
    have hw3 : IntKind.wrap .i64 ((r : Int) + (k : Int)) = ((r + k : Nat) : Int) := by rw [wrap_i64 (by omega) (by omega)]; rfl
    by_cases hto : r + k < wl
    rotate_left
    · have h3 : (((r + k : Nat) : Int) ≥ (wl : Int)) := by omega
      simp only [Option.bind_some, List.getElem?_cons_zero, List.getElem?_cons_succ, int?_int, AVal.bool?, AVal.ptr?, AVal.sl?, AVal.tup?, AVal.agg?, AVal.ifc?, AVal.fn?, AVal.str?, List.head?_cons, List.tail_cons, List.isEmpty_nil, cond_true, cond_false, Option.isNone_some, Option.isNone_none, Bool.not_true, Bool.not_false, decide_true, decide_false, beq_self_eq_true, bne_self_eq_false, Int.reduceBEq, Int.reduceBNe, Int.cast_ofNat_Int, e1, h1, e2, hw1, cr, hw3, h3] at hE
      exact ⟨M, zs, hE, h⟩
    have h3 : ¬ (((r + k : Nat) : Int) ≥ (wl : Int)) := by omega
    have h4 : (0 : Int) ≤ ((r + k : Nat) : Int) := by omega
    have h5 : Nat.blt (r + k) wl = true := Mem.blt_iff.2 hto
    obtain ⟨p, hp, hv⟩ := (ints_iff.1 (ints_upto hbs h.up)).2 k (by omega)
    have hlb := ints_length hbs
    rw [List.getElem?_eq_getElem (by omega)] at hv
    have hv' : M.ldI .u8 p.1 (p.2 + k * 1) = some bs[k] := by rw [Nat.mul_one]; exact hv
    have hpl : p.1 < M0.n := by
      obtain ⟨p', hp', hv0⟩ := (ints_iff.1 hbs).2 k (by omega)
      rw [hp] at hp'
      obtain rfl := Option.some.inj hp'
      rw [List.getElem?_eq_getElem (by omega)] at hv0
      exact ld_lt (ldI_ld.1 hv0)
    obtain ⟨p1, M1, s1, s2, s3, s4, s5, s6, s6b, s7, s8⟩ := h.write (v := bs[k]) hAN hto
    have s2' : M.st p1.1 (p1.2 + (r + k) * 1) [.int .u8 bs[k]] = some M1 := by rw [Nat.mul_one]; exact s2
    have hold : ∀ q, q < M0.n → M1.get q = M0.get q := fun q hq => s4.2 q hq
    have hdd : dx ≠ p1.1 → M1.get dx = some ⟨[.int .u8 kind, .int .i64 xat, .sl ba bl bc], .fixed⟩ := fun hne => (s5 dx hdx hne).trans hd
    have hdp : dx ≠ p1.1 := by
      intro e
      have hgrow : ∃ cs, M.get p1.1 = some ⟨cs, .grow 1⟩ := by
        cases hh : h.held with
        | inn h1 h2 =>
          have hl0 : 0 < l := by omega
          obtain rfl := h2 (by omega)
          obtain ⟨_, _, g1, _⟩ := h.inn.obj hl0 h.hio
          have := (slPtr_some s1).1
          simp only [Option.some.injEq] at this
          subst this
          exact ⟨_, g1⟩
        | out q f cs h1 h2 h3 =>
          have := (slPtr_some s1).1
          simp only [Option.some.injEq] at this
          subst this
          exact ⟨_, h1⟩
        | fin q k d f cs h1 h2 h4 h3 => cases s1
      obtain ⟨cs, hg⟩ := hgrow
      rw [← e, hd] at hg
      simp at hg
    have hd1 := hdd hdp
    cases hins : ins with
    | false =>
      subst hins
      simp only [Option.bind_some, List.getElem?_cons_zero, List.getElem?_cons_succ, int?_int, AVal.bool?, AVal.ptr?, AVal.sl?, AVal.tup?, AVal.agg?, AVal.ifc?, AVal.fn?, AVal.str?, List.head?_cons, List.tail_cons, List.isEmpty_nil, cond_true, cond_false, Option.isNone_some, Option.isNone_none, Bool.not_true, Bool.not_false, decide_true, decide_false, beq_self_eq_true, bne_self_eq_false, Int.reduceBEq, Int.reduceBNe, Int.cast_ofNat_Int, e1, h1, e2, hw1, cr, hw3, h3, h0, Int.toNat_natCast, h2, hp, hv', h4, h5, s1, s2', hw2] at hE
      obtain ⟨M', zs', q1, q2⟩ := ih (k + 1) M1 zs (by omega) (s7 rfl) hd1
      exact ⟨M', zs', hE.trans q1, q2⟩
    | true =>
      subst hins
      obtain ⟨p2, M2, t1, t2, t3, t4⟩ := s8 rfl
      have t2' : M1.st p2.1 (p2.2 + (at_ + (r + k)) * 1) [.int .u8 bs[k]] = some M2 := by rw [Nat.mul_one]; exact t2
      have hw4 : IntKind.wrap .i64 ((at_ : Int) + ((r + k : Nat) : Int)) = ((at_ + (r + k) : Nat) : Int) := by rw [wrap_i64 (by omega) (by omega)]; rfl
      have h6 : (0 : Int) ≤ ((at_ + (r + k) : Nat) : Int) := by omega
      have h7 : Nat.blt (at_ + (r + k)) l = true := Mem.blt_iff.2 t3
      have e3 : M1.ldL dx 2 = some (ba, bl, bc) := by simp [Mem.ldL, Mem.ld, Mem.cells, hd1, AObj.live, AVal.sl?]
      have hv1 : M1.ldI .u8 p.1 (p.2 + k * 1) = some bs[k] := by
        unfold Mem.ldI at hv' ⊢
        rw [ld_same (M := M) (by rw [hold p.1 hpl, h.up.2 p.1 hpl])]; exact hv'
      simp only [Option.bind_some, List.getElem?_cons_zero, List.getElem?_cons_succ, int?_int, AVal.bool?, AVal.ptr?, AVal.sl?, AVal.tup?, AVal.agg?, AVal.ifc?, AVal.fn?, AVal.str?, List.head?_cons, List.tail_cons, List.isEmpty_nil, cond_true, cond_false, Option.isNone_some, Option.isNone_none, Bool.not_true, Bool.not_false, decide_true, decide_false, beq_self_eq_true, bne_self_eq_false, Int.reduceBEq, Int.reduceBNe, Int.cast_ofNat_Int, e1, h1, e2, hw1, cr, hw3, h3, h0, Int.toNat_natCast, h2, hp, hv', h4, h5, s1, s2', e3, hv1, hw4, h6, h7, t1, t2', hw2] at hE
      have hl0 : 0 < l := by omega
      obtain ⟨rfl, rfl, g2, f2⟩ := h.want.obj hl0 h.hwo
      have hp2 : p2 = (wo, 0) := (Option.some.inj t1).symm
      subst hp2
      have hd2 : M2.get dx = some ⟨[.int .u8 kind, .int .i64 xat, .sl ba bl bc], .fixed⟩ := by
        have hwo1 : M1.get wo = some ⟨bytesOf zs, .grow 1⟩ := by
          rw [s5 wo f2 (by
            cases hh : h.held with
            | inn h1 h2 =>
              obtain rfl := h2 (by omega)
              have := Option.some.inj s1
              subst this
              exact fun e => h.ne.1 e.symm)]
          exact g2
        have hst := st_grow (i := at_ + (r + k)) (vs := [.int .u8 bs[k]]) hwo1 (by simp [bytesOf]; have := h.want.1; omega)
        rw [Nat.zero_add] at t2
        rw [t2] at hst
        obtain rfl := Option.some.inj hst
        rw [get_put_ne (fun e => by rw [e] at hd1; rw [hwo1] at hd1; simp at hd1)]
        exact hd1
      obtain ⟨M', zs', q1, q2⟩ := ih (k + 1) M2 _ (by omega) t4 hd2
      exact ⟨M', zs', hE.trans q1, q2⟩
section
variable {M0 M : Mem} {bx io wo A N l : Nat} {ia : Option (Nat × Nat)} {ic : Cap} {ya : Option (Nat × Nat)} {yc : Cap} {xs zs : List Int} {ins : Bool} {at_ : Nat} {wa : Option (Nat × Nat)} {wl : Nat} {wc : Cap}
/-- The slice is cut: from a place on. -/
theorem BInv.cut {r : Nat} (h : BInv M0 M bx io wo A N l ia ic ya yc xs zs ins at_ wa wl wc) (hr : r ≤ wl) :
    (ins = true → ∃ a' l' c', (∀ (K : Option (Nat × Nat) → Nat → Cap → Option (AVal × Mem)), slcK false 1 wa wl wc M (some (.int .i64 (r : Int))) (some (.int .i64 ((A + N - at_ : Nat) : Int))) none K = K a' l' c') ∧ l' ≤ N ∧ BInv M0 M bx io wo A N l ia ic ya yc xs zs true (at_ + r) a' l' c') ∧
    (ins = false → ∃ a' l' c', (∀ (K : Option (Nat × Nat) → Nat → Cap → Option (AVal × Mem)), slcK false 1 wa wl wc M (some (.int .i64 (r : Int))) none none K = K a' l' c') ∧ l' ≤ wl ∧ BInv M0 M bx io wo A N l ia ic ya yc xs zs false at_ a' l' c') := by
  have hlo := h.lo
  cases hh : h.held with
  | inn h1 h2 =>
    refine ⟨fun _ => ⟨_, _, _, fun K => slcK_known (l := r) (h := A + N - at_) (by omega) (Nat.le_refl _), by omega, ⟨h.up, h.box, h.bxl, h.inn, h.want, h.hio, h.hwo, h.ne, h.same, ?_, by omega⟩⟩, fun hf => by cases hf⟩
    have e : A + N - at_ - r = A + N - (at_ + r) := by omega
    rw [e]
    refine .inn (by omega) (fun h0 => ?_)
    rw [Go.Abs.beq_false (by omega), cond_false, h2 (by omega)]
    simp [adv]
  | out q f cs h1 h2 h3 =>
    refine ⟨(fun hf => by cases hf), fun _ => ?_⟩
    have hs := fun K => slcK_unk_from (β := AVal × Mem) (K := K) (M := M) (s := 1) (len := wl) (l := r) (f := f) (kl := .i64) h1 (.inl rfl) (by omega) hr
    simp only [Nat.mul_one] at hs
    cases hz : (Nat.beq r wl && Nat.blt 0 r) with
    | true =>
      simp only [Bool.and_eq_true] at hz
      obtain rfl := Nat.eq_of_beq_eq_true hz.1
      refine ⟨some (q, f), 0, .fin (f + r) r, fun K => by rw [hs, Bool.and_eq_true_iff.2 hz, cond_true], by omega, ⟨h.up, h.box, h.bxl, h.inn, h.want, h.hio, h.hwo, h.ne, h.same, .fin _ _ _ _ _ h1 h2 rfl h3, h.lo⟩⟩
    | false => exact ⟨some (q, f + r), wl - r, .unk (f + r), fun K => by rw [hs, hz, cond_false], by omega, ⟨h.up, h.box, h.bxl, h.inn, h.want, h.hio, h.hwo, h.ne, h.same, .out _ _ _ h1 (by omega) h3, h.lo⟩⟩
  | fin q k d f cs h1 h2 h4 h3 =>
    refine ⟨(fun hf => by cases hf), fun _ => ?_⟩
    obtain rfl : r = 0 := by omega
    exact ⟨_, _, _, fun K => slcK_fin, Nat.le_refl _, h⟩
/-- What is appended to a slice that is outside. -/
theorem BInv.app_out {ba : Option (Nat × Nat)} {bl : Nat} {bc : Cap} {bs : List Int} (h : BInv M0 M bx io wo A N l ia ic ya yc xs zs false at_ wa wl wc) (hbs : M.ints .u8 ba bl bc = some bs) (hb : wl + bl ≤ 2 ^ 47) :
    ∃ a' c' M', (∀ (K : Option (Nat × Nat) → Nat → Cap → Mem → Option (AVal × Mem)), appK false 1 1 M wa wl wc (.sl ba bl bc) K = K a' (wl + bl) c' M') ∧ BInv M0 M' bx io wo A N l ia ic ya yc xs zs false at_ a' (wl + bl) c' ∧ (∀ q, q < M.n → (∃ cs k, M.get q = some ⟨cs, k⟩ ∧ k ≠ .grow 1) → M'.get q = M.get q) := by
  have hup := h.up.1
  have hr := ints_raws.1 hbs
  have hlb := ints_length hbs
  -- a new object takes the place of an old one
  have moved : ∀ (q : Nat) (cs ds : List AVal), M.get q = some ⟨cs, .grow 1⟩ → (M0.n ≤ q ∧ q ≠ io ∧ q ≠ wo ∧ q ≠ bx) → ds.length = wl + bl → BInv M0 ((M.put q ⟨[], .dead⟩).alloc ⟨ds, .grow 1⟩) bx io wo A N l ia ic ya yc xs zs false at_ (some (M.n, 0)) (wl + bl) (.unk 0) ∧
      (∀ r, r < M.n → (∃ cs k, M.get r = some ⟨cs, k⟩ ∧ k ≠ .grow 1) → ((M.put q ⟨[], .dead⟩).alloc ⟨ds, .grow 1⟩).get r = M.get r) := by
    intro q cs ds hq hne hlen
    have hql := Mem.get_lt hq
    have old : ∀ r, r < M.n → r ≠ q → ((M.put q ⟨[], .dead⟩).alloc ⟨ds, .grow 1⟩).get r = M.get r := fun r hr hn => by rw [get_alloc_lt (by simpa using hr), get_put_ne hn]
    have hbx := Mem.get_lt h.box
    refine ⟨⟨⟨by simp; omega, fun r hr => by rw [old r (by omega) (by omega), h.up.2 r hr]⟩, (old bx hbx (fun e => hne.2.2.2 e.symm)).trans h.box, h.bxl, h.inn.same (fun o ho => old o (h.inn.lt o ho) (fun e => hne.2.1 (by rw [← e]; exact (h.hio o ho).1))), h.want.same (fun o ho => old o (h.want.lt o ho) (fun e => hne.2.2.1 (by rw [← e]; exact (h.hwo o ho).1))), h.hio, h.hwo, ⟨h.ne.1, h.ne.2.1, h.ne.2.2.1, ?_, ?_⟩, h.same, .out _ _ ds ?_ (by omega) ⟨by omega, ?_, ?_, by omega⟩, h.lo⟩, fun r hr ⟨cs', k, h1, h2⟩ => old r hr (fun e => h2 (by subst e; rw [hq] at h1; simp at h1; exact h1.2.symm))⟩
    · have := h.ne.2.2.2.1; simp; omega
    · have := h.ne.2.2.2.2; simp; omega
    · rw [show M.n = (M.put q ⟨[], .dead⟩).n from rfl]; exact get_alloc_self _ _
    · have := h.ne.2.2.2.1; omega
    · have := h.ne.2.2.2.2; omega
  cases hh : h.held with
  | out q f cs h1 h2 h3 =>
    by_cases h0 : 0 < bl
    · have ha := fun K => appK_end (β := AVal × Mem) (K := K) (bytes := 1) (f := f) (l := wl) h1 (by omega) (by omega) hr h0 (by omega)
      simp only [Nat.mul_one] at ha
      obtain ⟨g1, g2⟩ := moved q cs (cs.drop f ++ bs.map (.int .u8)) h1 h3 (by rw [List.length_append, List.length_drop, List.length_map]; omega)
      exact ⟨_, _, _, ha, g1, g2⟩
    · obtain rfl : bl = 0 := by omega
      have ha := fun K => appK_end0 (β := AVal × Mem) (K := K) (bytes := 1) (a' := ba) (c' := bc) (f := f) (l := wl) h1 (by omega)
      simp only [Nat.mul_one] at ha
      exact ⟨_, _, M, ha, h, fun _ _ _ => rfl⟩
  | fin q k d f cs h1 h2 h4 h3 =>
    by_cases h0 : 0 < bl
    · have ha := fun K => appK_fin (β := AVal × Mem) (K := K) (bytes := 1) (f := f) (d := d) (k := k) h1 (by omega) (by omega) hr h0 (by omega)
      obtain ⟨g1, g2⟩ := moved q cs (bs.map (.int .u8)) h1 h3 (by rw [List.length_map]; omega)
      rw [Nat.zero_add] at g1
      exact ⟨_, _, _, fun K => by rw [ha, Nat.zero_add], by rw [Nat.zero_add]; exact g1, g2⟩
    · obtain rfl : bl = 0 := by omega
      exact ⟨_, _, M, fun K => appK_fin0, h, fun _ _ _ => rfl⟩
/-- Appended within the window: first to the bytes, then (one by one) to the others. -/
theorem BInv.app_in {ba : Option (Nat × Nat)} {bl : Nat} {bc : Cap} {bs : List Int} (h : BInv M0 M bx io wo A N l ia ic ya yc xs zs true at_ wa wl wc) (hAN : A + N ≤ l) (hbs : M.ints .u8 ba bl bc = some bs) (h0 : 0 < bl) (hfit : wl + bl ≤ A + N - at_) :
    ∃ M', (∀ (K : Option (Nat × Nat) → Nat → Cap → Mem → Option (AVal × Mem)), appK false 1 1 M wa wl wc (.sl ba bl bc) K = K wa (wl + bl) wc M') ∧ M'.n = M.n ∧ M'.get io = some ⟨overL (bytesOf zs) (at_ + wl) (bytesOf bs), .grow 1⟩ ∧ ia = some (io, 0) ∧ ic = .unk 0 ∧ ya = some (wo, 0) ∧ yc = .unk 0 ∧ M'.get wo = some ⟨bytesOf zs, .grow 1⟩ ∧ M0.n ≤ io ∧ M0.n ≤ wo ∧
      (∀ q, q ≠ io → M'.get q = M.get q) ∧ wc = .known (A + N - at_) ∧ (0 < A + N - at_ → wa = some (io, at_)) := by
  cases hh : h.held with
  | inn h1 h2 =>
    have hl0 : 0 < l := by omega
    have h2' := h2
    obtain rfl := h2 (by omega)
    obtain ⟨rfl, rfl, g1, f1⟩ := h.inn.obj hl0 h.hio
    obtain ⟨rfl, rfl, g2, f2⟩ := h.want.obj hl0 h.hwo
    have hzl := h.inn.1
    have hr := ints_raws.1 hbs
    have ha := fun K => appK_in (β := AVal × Mem) (K := K) (s := 1) (bytes := 1) (l := wl) (n := A + N - at_) (i := at_) g1 (by rfl) hr h0 hfit (by simp [bytesOf]; omega)
    simp only [Nat.mul_one] at ha
    exact ⟨_, ha, rfl, get_put_self (Mem.get_lt g1), rfl, rfl, rfl, rfl, (get_put_ne (fun e => h.ne.1 e.symm)).trans g2, f1, f2, fun q hq => get_put_ne hq, rfl, h2'⟩
end
theorem bytes_over (zs bs : List Int) (i : Nat) (hi : i + bs.length ≤ zs.length) : overL (bytesOf zs) i (bytesOf bs) = bytesOf ((zs.take i) ++ bs ++ zs.drop (i + bs.length)) := by
  apply List.ext_getElem?
  intro j
  rw [overL_get _ _ _ _ (by simpa using hi)]
  simp only [bytesOf, List.length_map, List.map_append, List.map_take, List.map_drop]
  have ht : ((zs.map (AVal.int .u8)).take i).length = i := by simp; omega
  have hb : (bs.map (AVal.int .u8)).length = bs.length := List.length_map _
  by_cases h1 : j < i
  · rw [if_neg (by omega), List.append_assoc, List.getElem?_append_left (by omega), List.getElem?_take, if_pos h1]
  · by_cases h2 : j < i + bs.length
    · rw [if_pos ⟨by omega, h2⟩, List.getElem?_append_left (by rw [List.length_append]; omega), List.getElem?_append_right (by omega), ht]
    · rw [if_neg (by omega), List.getElem?_append_right (by rw [List.length_append]; omega), List.getElem?_drop, List.length_append, ht, hb, show i + bs.length + (j - (i + bs.length)) = j from by omega]
theorem bounds_copy {M0 : Mem} {b1 : Option (Nat × Nat)} {b2 : Nat} {b3 : Cap} {d1 : Option (Nat × Nat)} {d2 : Nat} {d3 : Cap} {bx wo l : Nat} {ia : Option (Nat × Nat)} {ic : Cap} {ins : Bool} {at_ n : Nat} {wa : Option (Nat × Nat)} {wl : Nat} {wc : Cap} {i0 kind xat : Int} {dx : Nat} {ba : Option (Nat × Nat)} {bl : Nat} {bc : Cap} {bs zs : List Int}
    (hzl : zs.length = l) (hl : l < 2 ^ 47) (hfit : at_ + n + bl ≤ l) (hbs : M0.ints .u8 ba bl bc = some bs) (hwo : M0.n ≤ wo) :
    ∀ (d k : Nat) (M : Mem), k + d = bl → M0.Upto M → M.get wo = some ⟨bytesOf (zs.take (at_ + n) ++ bs.take k ++ zs.drop (at_ + n + k)), .grow 1⟩ → M.get dx = some ⟨[.int .u8 kind, .int .i64 xat, .sl ba bl bc], .fixed⟩ →
      ∃ M', p4_11 C prog.meth b1 b2 b3 d1 d2 d3 bx ia l ic (some (wo, 0)) l (.unk 0) wa wl wc at_ ins i0 dx n k M = p4_8 C prog.meth b1 b2 b3 d1 d2 d3 bx ia l ic (some (wo, 0)) l (.unk 0) wa wl wc at_ ins i0 M' ∧ M'.n = M.n ∧
        M'.get wo = some ⟨bytesOf (zs.take (at_ + n) ++ bs ++ zs.drop (at_ + n + bl)), .grow 1⟩ ∧ Mem.But (· = wo) M M' := by
  have hlb := ints_length hbs
  intro d
  induction d with
  | zero =>
    intro k M hk hu hg hd
    have hE := p4_11_eq C prog.meth b1 b2 b3 d1 d2 d3 bx ia l ic (some (wo, 0)) l (.unk 0) wa wl wc at_ ins i0 dx n k M
    have h1 : ¬ ((k : Int) < (bl : Int)) := by omega
    have e1 : M.ldL dx 2 = some (ba, bl, bc) := by simp [Mem.ldL, Mem.ld, Mem.cells, hd, AObj.live, AVal.sl?]
    simp only [Option.bind_some, List.getElem?_cons_zero, List.getElem?_cons_succ, int?_int, AVal.bool?, AVal.ptr?, AVal.sl?, AVal.tup?, AVal.agg?, AVal.ifc?, AVal.fn?, AVal.str?, List.head?_cons, List.tail_cons, List.isEmpty_nil, cond_true, cond_false, Option.isNone_some, Option.isNone_none, Bool.not_true, Bool.not_false, decide_true, decide_false, beq_self_eq_true, bne_self_eq_false, Int.reduceBEq, Int.reduceBNe, Int.cast_ofNat_Int, e1, h1] at hE
    have hkb : k = bl := by omega
    have htk : bs.take k = bs := List.take_of_length_le (by omega)
    rw [htk, hkb] at hg
    exact ⟨M, hE, rfl, hg, Mem.But.refl _ _⟩
  | succ d ih =>
    intro k M hk hu hg hd
    have hE := p4_11_eq C prog.meth b1 b2 b3 d1 d2 d3 bx ia l ic (some (wo, 0)) l (.unk 0) wa wl wc at_ ins i0 dx n k M
    have h0 : (0 : Int) ≤ (k : Int) := by omega
    have h1 : ((k : Int) < (bl : Int)) := by omega
    have h2 : Nat.blt k bl = true := Mem.blt_iff.2 (by omega)
    have e1 : M.ldL dx 2 = some (ba, bl, bc) := by simp [Mem.ldL, Mem.ld, Mem.cells, hd, AObj.live, AVal.sl?]
    obtain ⟨p, hp, hv⟩ := (ints_iff.1 (ints_upto hbs hu)).2 k (by omega)
    rw [List.getElem?_eq_getElem (by omega)] at hv
    have hv' : M.ldI .u8 p.1 (p.2 + k * 1) = some bs[k] := by rw [Nat.mul_one]; exact hv
    have hw1 : IntKind.wrap .i64 ((at_ : Int) + (n : Int)) = ((at_ + n : Nat) : Int) := by rw [wrap_i64 (by omega) (by omega)]; rfl
    have hw2 : IntKind.wrap .i64 (((at_ + n : Nat) : Int) + (k : Int)) = ((at_ + n + k : Nat) : Int) := by rw [wrap_i64 (by omega) (by omega)]; rfl
    have hw3 : IntKind.wrap .i64 ((k : Int) + 1) = ((k + 1 : Nat) : Int) := by rw [wrap_i64 (by omega) (by omega)]; rfl
    have h3 : (0 : Int) ≤ ((at_ + n + k : Nat) : Int) := by omega
    have h4 : Nat.blt (at_ + n + k) l = true := Mem.blt_iff.2 (by omega)
    have hsp : slPtr (some (wo, 0)) (.unk 0) = some (wo, 0) := rfl
    have hwl := Mem.get_lt hg
    have hst := st_grow (i := at_ + n + k) (vs := [.int .u8 bs[k]]) hg (by simp [bytesOf]; omega)
    have hnew : overL (bytesOf (zs.take (at_ + n) ++ bs.take k ++ zs.drop (at_ + n + k))) (at_ + n + k) [.int .u8 bs[k]] = bytesOf (zs.take (at_ + n) ++ bs.take (k + 1) ++ zs.drop (at_ + n + (k + 1))) := by
      rw [overL_one, show (bytesOf (zs.take (at_ + n) ++ bs.take k ++ zs.drop (at_ + n + k))).set (at_ + n + k) (.int .u8 bs[k]) = bytesOf ((zs.take (at_ + n) ++ bs.take k ++ zs.drop (at_ + n + k)).set (at_ + n + k) bs[k]) from by simp [bytesOf, List.map_set]]
      congr 1
      have hlen : (zs.take (at_ + n) ++ bs.take k).length = at_ + n + k := by simp; omega
      rw [List.set_append_right _ _ (by omega), hlen, Nat.sub_self, List.drop_eq_getElem_cons (show at_ + n + k < zs.length by omega), List.set_cons_zero, List.take_add_one, List.getElem?_eq_getElem (by omega)]
      simp only [Option.toList_some, List.append_assoc, List.cons_append, List.nil_append, Nat.add_assoc]
    rw [hnew] at hst
    simp only [Option.bind_some, List.getElem?_cons_zero, List.getElem?_cons_succ, int?_int, AVal.bool?, AVal.ptr?, AVal.sl?, AVal.tup?, AVal.agg?, AVal.ifc?, AVal.fn?, AVal.str?, List.head?_cons, List.tail_cons, List.isEmpty_nil, cond_true, cond_false, Option.isNone_some, Option.isNone_none, Bool.not_true, Bool.not_false, decide_true, decide_false, beq_self_eq_true, bne_self_eq_false, Int.reduceBEq, Int.reduceBNe, Int.cast_ofNat_Int, e1, h1, h0, Int.toNat_natCast, h2, hp, hv, hw1, hw2, h3, h4, hsp, Nat.zero_add, Nat.mul_one, hst, hw3] at hE
    have hdw : dx ≠ wo := fun e => by rw [e] at hd; rw [hg] at hd; simp at hd
    obtain ⟨M', q1, q2, q3, q4⟩ := ih (k + 1) (M.put wo _) (by omega) ⟨hu.1, fun q hq => by rw [get_put_ne (by omega), hu.2 q hq]⟩ (get_put_self hwl) ((get_put_ne hdw).trans hd)
    exact ⟨M', hE.trans q1, q2, q3, (Mem.But.put _ _ _).trans q4 (fun _ _ h => h)⟩
end Go.Proofs.Ytndolnehppadnaa.M
