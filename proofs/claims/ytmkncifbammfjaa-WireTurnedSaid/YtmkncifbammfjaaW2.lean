import Derived.Test.YtmkncifbammfjaaW1
import Derived.Test.YtmkncifbammfjaaXLib5
set_option linter.unusedVariables false
set_option linter.unusedSimpArgs false
set_option linter.unnecessarySimpa false
set_option maxRecDepth 100000
namespace Go.Proofs.Ytmkncifbammfjaa.M
open Go.Abs
section
variable {M M' : Mem} {ro mo : Nat} {v ca ta : SlV} {xs : List Int} {s : Rs} {L : List Ins} {tvs : List SlV} {Ts : List (List Pr)} {size : Nat}
end
end Go.Proofs.Ytmkncifbammfjaa.M
namespace Go.Proofs.Ytmkncifbammfjaa.M
open Go.Abs
section
variable {M M' : Mem} {ro mo : Nat} {v ca ta : SlV} {xs : List Int} {s : Rs} {L : List Ins} {tvs : List SlV} {Ts : List (List Pr)}
structure Mb (M : Mem) (ro : Nat) (v : SlV) (xs : List Int) (mo : Nat) (s : Rs) (ca ta : SlV) (L : List Ins) (tvs : List SlV) (Ts : List (List Pr)) : Prop where
  r : Rdr M ro v xs s
  gm : M.get mo = some ⟨[.sl ca.1 ca.2.1 ca.2.2, .sl ta.1 ta.2.1 ta.2.2], .fixed⟩
  lc : Row M 5 encI ca.1 ca.2.1 ca.2.2 L
  lt : Row M 1 encS ta.1 ta.2.1 ta.2.2 tvs
  tv : s.2 = 0 → Tbs M tvs Ts
  fc : ∀ o ∈ fpOf ca.1, mo < o ∧ o < M.n
  ft : ∀ o ∈ fpOf ta.1, mo < o ∧ o < M.n ∧ o ∉ fpOf ca.1
  fv : ∀ w ∈ tvs, ∀ o ∈ fpOf w.1, mo < o ∧ o < M.n ∧ o ∉ fpOf ta.1 ∧ o ∉ fpOf ca.1
  ord : ro < mo ∧ ∀ o ∈ fpS v, o < mo
theorem Mb.rd (H : Mb M ro v xs mo s ca ta L tvs Ts) : M.ldL mo 0 = some ca ∧ M.ldL mo 1 = some ta := by
  refine ⟨?_, ?_⟩
  · rw [ldL_at H.gm]; rfl
  · rw [ldL_at H.gm]; rfl
theorem Mb.read (H : Mb M ro v xs mo s ca ta L tvs Ts) {s' : Rs} (hr : Rdr M' ro v xs s') (hb : Mem.But (· = ro) M M') (h0 : s.2 = 0) : Mb M' ro v xs mo s' ca ta L tvs Ts := by
  obtain ⟨o1, o3⟩ := H.ord
  have hm := Mem.get_lt H.gm
  have hn := hb.1
  exact ⟨hr, (hb.2 mo hm (by omega)).trans H.gm, H.lc.same (fun o ho => hb.2 o (H.fc o ho).2 (by have := H.fc o ho; omega)), H.lt.same (fun o ho => hb.2 o (H.ft o ho).2.1 (by have := H.ft o ho; omega)),
    fun _ => (H.tv h0).same (fun w hw o ho => hb.2 o (H.fv w hw o ho).2.1 (by have := H.fv w hw o ho; omega)), fun o ho => by have := H.fc o ho; omega, fun o ho => by have := H.ft o ho; exact ⟨this.1, by omega, this.2.2⟩, fun w hw o ho => by have := H.fv w hw o ho; exact ⟨this.1, by omega, this.2.2⟩, H.ord⟩
end
end Go.Proofs.Ytmkncifbammfjaa.M
namespace Go.Proofs.Ytmkncifbammfjaa.M
open Go.Abs
section
variable {M M' : Mem} {ro mo : Nat} {v ca ta : SlV} {xs : List Int} {s : Rs} {L : List Ins} {tvs : List SlV} {Ts : List (List Pr)}
theorem Mb.new {n : Nat} (H : Mb M ro v xs mo s ca ta L tvs Ts) (h0 : s.2 = 0) (hn : n ≤ mo) : NewMd n M ca ta L Ts := fun M2 hg =>
  ⟨H.lc.sl.same (fun p hp => by have := H.fc p.1 (by rw [hp]; simp [fpOf]); exact hg p.1 (by omega) this.2), tvs, H.lt.sl.same (fun p hp => by have := H.ft p.1 (by rw [hp]; simp [fpOf]); exact hg p.1 (by omega) this.2.1), (H.tv h0).same (fun w hw o ho => by have := H.fv w hw o ho; exact hg o (by omega) this.2.1)⟩
end
end Go.Proofs.Ytmkncifbammfjaa.M
namespace Go.Proofs.Ytmkncifbammfjaa.M
open Go.Abs
section
variable {M M0 M' : Mem} {ca ta w : SlV} {code : List Ins} {tabs : List (List Pr)} {ys : List Int}
theorem ins_ld {a : Option (Nat × Nat)} {l : Nat} {c : Cap} (h : Sl M 5 encI a l c code) {i : Nat} (hi : i < l) : ∃ p x, slPtr a c = some p ∧ code[i]? = some x ∧ M.ldI .u8 p.1 (p.2 + i * 5) = some (x.1 : Int) ∧ M.ldI .u8 p.1 (p.2 + i * 5 + 1) = some x.2.1 ∧ M.ldI .u8 p.1 (p.2 + i * 5 + 1 + 1) = some x.2.2.1 ∧ M.ldI .i16 p.1 (p.2 + i * 5 + 1 + 1 + 1) = some x.2.2.2.1 ∧ M.ldI .i32 p.1 (p.2 + i * 5 + 1 + 1 + 1 + 1) = some x.2.2.2.2 := by
  obtain ⟨p, h1, h2⟩ := h.get encI5 (by omega) hi
  have hl := h.2
  refine ⟨p, code[i]'(by omega), h1, List.getElem?_eq_getElem (by omega), ?_, ?_, ?_, ?_, ?_⟩
  · exact ldI_ld.2 (h2 0 (by omega))
  · rw [Nat.add_assoc]; exact ldI_ld.2 (h2 1 (by omega))
  · rw [Nat.add_assoc, Nat.add_assoc]; exact ldI_ld.2 (h2 2 (by omega))
  · rw [Nat.add_assoc, Nat.add_assoc, Nat.add_assoc]; exact ldI_ld.2 (h2 3 (by omega))
  · rw [Nat.add_assoc, Nat.add_assoc, Nat.add_assoc, Nat.add_assoc]; exact ldI_ld.2 (h2 4 (by omega))
theorem tv_ld {a : Option (Nat × Nat)} {l : Nat} {c : Cap} {tvs : List SlV} (h : Sl M 1 encS a l c tvs) {i : Nat} (hi : i < l) : ∃ p x, slPtr a c = some p ∧ tvs[i]? = some x ∧ M.ldL p.1 (p.2 + i) = some x := by
  obtain ⟨p, h1, h2⟩ := h.get encS1 (by omega) hi
  have hl := h.2
  refine ⟨p, tvs[i]'(by omega), h1, List.getElem?_eq_getElem (by omega), ?_⟩
  have h3 := h2 0 (by omega)
  rw [Nat.mul_one, Nat.add_zero] at h3
  unfold Mem.ldL
  rw [h3]; rfl
theorem chkI_drop {i : Nat} {x : Ins} (h : code[i]? = some x) : chkI (code.drop i) = if okA x then chkI (code.drop (i + 1)) else 130 := by
  obtain ⟨h1, h2⟩ := List.getElem?_eq_some_iff.1 h
  rw [List.drop_eq_getElem_cons h1, chkI, h2]
theorem chkT_drop {i : Nat} {x : List Pr} (h : tabs[i]? = some x) : chkT (tabs.drop i) = if chk x = 0 then chkT (tabs.drop (i + 1)) else chk x := by
  obtain ⟨h1, h2⟩ := List.getElem?_eq_some_iff.1 h
  rw [List.drop_eq_getElem_cons h1, chkT, h2]
theorem check_tabs {a : Option (Nat × Nat)} {l : Nat} {c : Cap} {tvs : List SlV} (h : Sl M 1 encS a l c tvs) (ht : Tbs M tvs tabs) (hl : l < 2 ^ 60) : ∀ (d i : Nat), i + d = l → p11_3 C prog.meth a l c (l : Int) (i : Int) M = some (.int .i64 (chkT (tabs.drop i)), M) := by
  intro d
  have hlen := h.2
  induction d with
  | zero =>
    intro i hi
    have hF := p11_3_eq C prog.meth a l c (l : Int) (i : Int) M
    have q : ¬ ((i : Int) < (l : Int)) := by omega
    simp only [Option.bind_some, List.getElem?_cons_zero, List.getElem?_cons_succ, int?_int, AVal.bool?, AVal.ptr?, AVal.sl?, AVal.tup?, AVal.agg?, AVal.ifc?, AVal.fn?, AVal.str?, List.head?_cons, List.tail_cons, List.isEmpty_nil, cond_true, cond_false, Option.isNone_some, Option.isNone_none, Bool.not_true, Bool.not_false, decide_true, decide_false, beq_self_eq_true, bne_self_eq_false, Int.reduceBEq, Int.reduceBNe, Int.cast_ofNat_Int, q] at hF
    rw [List.drop_eq_nil_of_le (by have := ht.1; omega)]
    exact hF
  | succ d ih =>
    intro i hi
    have hF := p11_3_eq C prog.meth a l c (l : Int) (i : Int) M
    have q : ((i : Int) < (l : Int)) := by omega
    have k0 : (0 : Int) ≤ (i : Int) := by omega
    have k1 : Nat.blt i l = true := Mem.blt_iff.2 (by omega)
    have w1 : IntKind.wrap .i64 ((i : Int) + 1) = ((i + 1 : Nat) : Int) := by rw [wrap_i64 (by omega) (by omega)]; rfl
    obtain ⟨p, x, hp, hx, hv⟩ := tv_ld h (i := i) (by omega)
    have hti : i < tabs.length := by have := ht.1; omega
    have hT := List.getElem?_eq_getElem hti
    have cT := TCheck_C (ht.2 i x _ hx hT)
    rw [chkT_drop hT]
    by_cases hz : chk tabs[i] = 0
    · have q2 : (chk tabs[i] != 0) = false := by simp [hz]
      simp only [Option.bind_some, List.getElem?_cons_zero, List.getElem?_cons_succ, int?_int, AVal.bool?, AVal.ptr?, AVal.sl?, AVal.tup?, AVal.agg?, AVal.ifc?, AVal.fn?, AVal.str?, List.head?_cons, List.tail_cons, List.isEmpty_nil, cond_true, cond_false, Option.isNone_some, Option.isNone_none, Bool.not_true, Bool.not_false, decide_true, decide_false, beq_self_eq_true, bne_self_eq_false, Int.reduceBEq, Int.reduceBNe, Int.cast_ofNat_Int, q, k0, k1, Int.toNat_natCast, hp, Nat.mul_one, hv, cT, q2, w1] at hF
      rw [if_pos hz, hF]
      exact ih (i + 1) (by omega)
    · have q2 : (chk tabs[i] != 0) = true := by simp [hz]
      simp only [Option.bind_some, List.getElem?_cons_zero, List.getElem?_cons_succ, int?_int, AVal.bool?, AVal.ptr?, AVal.sl?, AVal.tup?, AVal.agg?, AVal.ifc?, AVal.fn?, AVal.str?, List.head?_cons, List.tail_cons, List.isEmpty_nil, cond_true, cond_false, Option.isNone_some, Option.isNone_none, Bool.not_true, Bool.not_false, decide_true, decide_false, beq_self_eq_true, bne_self_eq_false, Int.reduceBEq, Int.reduceBNe, Int.cast_ofNat_Int, q, k0, k1, Int.toNat_natCast, hp, Nat.mul_one, hv, cT, q2, w1] at hF
      rw [if_neg hz]; exact hF
theorem ibox5 (M : Mem) (x : Ins) : ∃ M', (M.alloc ⟨[.int .u8 0, .int .u8 0, .int .u8 0, .int .i16 0, .int .i32 0], .fixed⟩).st M.n 0 [.int .u8 (x.1 : Int), .int .u8 x.2.1, .int .u8 x.2.2.1, .int .i16 x.2.2.2.1, .int .i32 x.2.2.2.2] = some M' ∧ M.Upto M' ∧ M'.n = M.n + 1 ∧
    M'.ldI .u8 M.n 0 = some (x.1 : Int) ∧ M'.ldI .u8 M.n 1 = some x.2.1 ∧ M'.ldI .u8 M.n 2 = some x.2.2.1 ∧ M'.ldI .i16 M.n 3 = some x.2.2.2.1 ∧ M'.ldI .i32 M.n 4 = some x.2.2.2.2 := by
  obtain ⟨M1, e1, g1, u1, n1⟩ := alloc_at M ⟨[.int .u8 0, .int .u8 0, .int .u8 0, .int .i16 0, .int .i32 0], .fixed⟩
  rw [e1]
  obtain ⟨M2, s2, g2, n2, b2⟩ := st_at (i := 0) (vs := [.int .u8 (x.1 : Int), .int .u8 x.2.1, .int .u8 x.2.2.1, .int .i16 x.2.2.2.1, .int .i32 x.2.2.2.2]) g1 (by simp)
  simp only [overL] at g2
  refine ⟨M2, s2, ⟨by omega, fun o ho => by rw [b2.2 o (by omega) (by omega), u1.2 o ho]⟩, by omega, ?_, ?_, ?_, ?_, ?_⟩
  · rw [ldI_at g2]; rfl
  · rw [ldI_at g2]; rfl
  · rw [ldI_at g2]; rfl
  · rw [ldI_at g2]; rfl
  · rw [ldI_at g2]; rfl
theorem check_code {mo : Nat} {a : Option (Nat × Nat)} {l : Nat} {c : Cap} {tvs : List SlV} (hc : Sl M0 5 encI a l c code) (hr : ∀ x ∈ code, InsR x) (hl : l < 2 ^ 60) (gm : M0.ldL mo 1 = some ta) (ht : Sl M0 1 encS ta.1 ta.2.1 ta.2.2 tvs) (hT : Tbs M0 tvs tabs) (htl : ta.2.1 < 2 ^ 60) :
    ∀ (d i : Nat) (M : Mem), i + d = l → M0.Upto M → ∃ M', p11_2 C prog.meth mo a l c (l : Int) (i : Int) M = some (.int .i64 (if chkI (code.drop i) = 0 then chkT tabs else chkI (code.drop i)), M') ∧ M0.Upto M' := by
  intro d
  have hlen := hc.2
  have hmo : mo < M0.n := by
    unfold Mem.ldL at gm
    obtain ⟨x, hx, _⟩ := Option.bind_eq_some_iff.1 gm
    exact ld_lt hx
  induction d with
  | zero =>
    intro i M hi hu
    have hF := p11_2_eq C prog.meth mo a l c (l : Int) (i : Int) M
    have q : ¬ ((i : Int) < (l : Int)) := by omega
    have gm' : M.ldL mo 1 = some ta := by unfold Mem.ldL at gm ⊢; rw [ld_same (hu.2 mo hmo)]; exact gm
    simp only [Option.bind_some, List.getElem?_cons_zero, List.getElem?_cons_succ, int?_int, AVal.bool?, AVal.ptr?, AVal.sl?, AVal.tup?, AVal.agg?, AVal.ifc?, AVal.fn?, AVal.str?, List.head?_cons, List.tail_cons, List.isEmpty_nil, cond_true, cond_false, Option.isNone_some, Option.isNone_none, Bool.not_true, Bool.not_false, decide_true, decide_false, beq_self_eq_true, bne_self_eq_false, Int.reduceBEq, Int.reduceBNe, Int.cast_ofNat_Int, q, gm'] at hF
    rw [List.drop_eq_nil_of_le (by omega)]
    have c3 := check_tabs (ht.upto encS1 (by omega) hu) (hT.upto hu) htl ta.2.1 0 (by omega)
    exact ⟨M, hF.trans c3, hu⟩
  | succ d ih =>
    intro i M hi hu
    have hF := p11_2_eq C prog.meth mo a l c (l : Int) (i : Int) M
    have q : ((i : Int) < (l : Int)) := by omega
    have k0 : (0 : Int) ≤ (i : Int) := by omega
    have k1 : Nat.blt i l = true := Mem.blt_iff.2 (by omega)
    have w1 : IntKind.wrap .i64 ((i : Int) + 1) = ((i + 1 : Nat) : Int) := by rw [wrap_i64 (by omega) (by omega)]; rfl
    obtain ⟨p, x, hp, hx, v0, v1, v2, v3, v4⟩ := ins_ld (hc.upto encI5 (by omega) hu) (i := i) (by omega)
    obtain ⟨M1, s1, u1, n1, x0, x1, x2, x3, x4⟩ := ibox5 M x
    have hxr := hr x (List.mem_of_getElem? hx)
    obtain ⟨Mc, cc, _⟩ := Check_B (M := Mem.empty) hxr
    have eo : errI (okB x.1 x.2.1 x.2.2.1 x.2.2.2.1 x.2.2.2.2) = errI (okA x) := rfl
    rw [eo] at cc
    rw [chkI_drop hx]
    have hE : ∀ e : Int, errI (okA x) = e → p11_2 C prog.meth mo a l c (l : Int) (i : Int) M = cond (e != 0) (some (.int .i64 e, M1)) (p11_2 C prog.meth mo a l c (l : Int) ((i + 1 : Nat) : Int) M1) := fun e he => by
      rw [he] at cc
      simp only [Option.bind_some, List.getElem?_cons_zero, List.getElem?_cons_succ, int?_int, AVal.bool?, AVal.ptr?, AVal.sl?, AVal.tup?, AVal.agg?, AVal.ifc?, AVal.fn?, AVal.str?, List.head?_cons, List.tail_cons, List.isEmpty_nil, cond_true, cond_false, Option.isNone_some, Option.isNone_none, Bool.not_true, Bool.not_false, decide_true, decide_false, beq_self_eq_true, bne_self_eq_false, Int.reduceBEq, Int.reduceBNe, Int.cast_ofNat_Int, q, k0, k1, Int.toNat_natCast, hp, v0, v1, v2, v3, v4, s1, x0, x1, x2, x3, x4, cc, w1] at hF
      exact hF
    cases ho : okA x with
    | true =>
      have := hE 0 (by rw [ho]; rfl)
      rw [this]
      exact ih (i + 1) M1 (by omega) (hu.trans u1)
    | false =>
      have := hE 130 (by rw [ho]; rfl)
      rw [this]
      exact ⟨M1, rfl, hu.trans u1⟩
abbrev mv (ca ta : SlV) : AVal := .agg [.sl ca.1 ca.2.1 ca.2.2, .sl ta.1 ta.2.1 ta.2.2]
theorem mbox (M : Mem) (ca ta : SlV) : ∃ M', M.alloc ⟨[.sl ca.1 ca.2.1 ca.2.2, .sl ta.1 ta.2.1 ta.2.2], .fixed⟩ = M' ∧ M.Upto M' ∧ M'.n = M.n + 1 ∧ M'.ldL M.n 0 = some ca ∧ M'.ldL M.n 1 = some ta := by
  obtain ⟨M1, e1, g1, u1, n1⟩ := alloc_at M ⟨[.sl ca.1 ca.2.1 ca.2.2, .sl ta.1 ta.2.1 ta.2.2], .fixed⟩
  refine ⟨M1, e1, u1, n1, ?_, ?_⟩
  · rw [ldL_at g1]; rfl
  · rw [ldL_at g1]; rfl
theorem ldL_upto {mo i : Nat} {x : SlV} (h : M.ldL mo i = some x) (hu : M.Upto M') : M'.ldL mo i = some x := by
  unfold Mem.ldL at h ⊢
  obtain ⟨y, hy, _⟩ := Option.bind_eq_some_iff.1 h
  rw [ld_same (hu.2 mo (ld_lt hy))]; exact h
theorem Md.lens (h : Md M ca ta code tabs) : code.length = ca.2.1 ∧ tabs.length = ta.2.1 := by
  obtain ⟨h1, tvs, h2, h3⟩ := h
  exact ⟨h1.2, by have := h2.2; have := h3.1; omega⟩
theorem WCheck_C (h : Md M ca ta code tabs) (hr : ∀ x ∈ code, InsR x) : ∃ M', C 11 [mv ca ta] M = some (.int .i64 (chkM code tabs), M') ∧ M.Upto M' := by
  have hE := p11_0_eq C prog.meth ca.1 ca.2.1 ca.2.2 ta.1 ta.2.1 ta.2.2 M
  obtain ⟨M1, e1, u1, n1, l0, l1⟩ := mbox M ca ta
  obtain ⟨lc, lt⟩ := h.lens
  simp only [Option.bind_some, List.getElem?_cons_zero, List.getElem?_cons_succ, int?_int, AVal.bool?, AVal.ptr?, AVal.sl?, AVal.tup?, AVal.agg?, AVal.ifc?, AVal.fn?, AVal.str?, List.head?_cons, List.tail_cons, List.isEmpty_nil, cond_true, cond_false, Option.isNone_some, Option.isNone_none, Bool.not_true, Bool.not_false, decide_true, decide_false, beq_self_eq_true, bne_self_eq_false, Int.reduceBEq, Int.reduceBNe, Int.cast_ofNat_Int, e1, l0, l1] at hE
  unfold chkM
  by_cases q1 : (ca.2.1 : Int) > 256
  · simp only [Option.bind_some, List.getElem?_cons_zero, List.getElem?_cons_succ, int?_int, AVal.bool?, AVal.ptr?, AVal.sl?, AVal.tup?, AVal.agg?, AVal.ifc?, AVal.fn?, AVal.str?, List.head?_cons, List.tail_cons, List.isEmpty_nil, cond_true, cond_false, Option.isNone_some, Option.isNone_none, Bool.not_true, Bool.not_false, decide_true, decide_false, beq_self_eq_true, bne_self_eq_false, Int.reduceBEq, Int.reduceBNe, Int.cast_ofNat_Int, q1] at hE
    rw [if_pos (by omega)]
    exact ⟨M1, c11 hE, u1⟩
  · by_cases q2 : (ta.2.1 : Int) > 4
    · simp only [Option.bind_some, List.getElem?_cons_zero, List.getElem?_cons_succ, int?_int, AVal.bool?, AVal.ptr?, AVal.sl?, AVal.tup?, AVal.agg?, AVal.ifc?, AVal.fn?, AVal.str?, List.head?_cons, List.tail_cons, List.isEmpty_nil, cond_true, cond_false, Option.isNone_some, Option.isNone_none, Bool.not_true, Bool.not_false, decide_true, decide_false, beq_self_eq_true, bne_self_eq_false, Int.reduceBEq, Int.reduceBNe, Int.cast_ofNat_Int, q1, q2] at hE
      rw [if_pos (by omega)]
      exact ⟨M1, c11 hE, u1⟩
    · rw [if_neg (by omega)]
      by_cases q3 : ca.2.1 = 0
      · have q3' : ((ca.2.1 : Int) == 0) = true := by simp [q3]
        simp only [Option.bind_some, List.getElem?_cons_zero, List.getElem?_cons_succ, int?_int, AVal.bool?, AVal.ptr?, AVal.sl?, AVal.tup?, AVal.agg?, AVal.ifc?, AVal.fn?, AVal.str?, List.head?_cons, List.tail_cons, List.isEmpty_nil, cond_true, cond_false, Option.isNone_some, Option.isNone_none, Bool.not_true, Bool.not_false, decide_true, decide_false, beq_self_eq_true, bne_self_eq_false, Int.reduceBEq, Int.reduceBNe, Int.cast_ofNat_Int, q1, q2, q3'] at hE
        rw [if_pos (by omega)]
        exact ⟨M1, c11 hE, u1⟩
      · have q3' : ((ca.2.1 : Int) == 0) = false := by simp only [beq_eq_false_iff_ne, ne_eq]; omega
        simp only [Option.bind_some, List.getElem?_cons_zero, List.getElem?_cons_succ, int?_int, AVal.bool?, AVal.ptr?, AVal.sl?, AVal.tup?, AVal.agg?, AVal.ifc?, AVal.fn?, AVal.str?, List.head?_cons, List.tail_cons, List.isEmpty_nil, cond_true, cond_false, Option.isNone_some, Option.isNone_none, Bool.not_true, Bool.not_false, decide_true, decide_false, beq_self_eq_true, bne_self_eq_false, Int.reduceBEq, Int.reduceBNe, Int.cast_ofNat_Int, q1, q2, q3'] at hE
        rw [if_neg (by omega)]
        have hF := p11_1_eq C prog.meth M.n M1
        simp only [Option.bind_some, List.getElem?_cons_zero, List.getElem?_cons_succ, int?_int, AVal.bool?, AVal.ptr?, AVal.sl?, AVal.tup?, AVal.agg?, AVal.ifc?, AVal.fn?, AVal.str?, List.head?_cons, List.tail_cons, List.isEmpty_nil, cond_true, cond_false, Option.isNone_some, Option.isNone_none, Bool.not_true, Bool.not_false, decide_true, decide_false, beq_self_eq_true, bne_self_eq_false, Int.reduceBEq, Int.reduceBNe, Int.cast_ofNat_Int, l0] at hF
        obtain ⟨hc, tvs, ht, hT⟩ := h.upto u1
        obtain ⟨M2, c2, u2⟩ := check_code (mo := M.n) hc hr (by omega) l1 ht hT (by omega) ca.2.1 0 M1 (by omega) (Mem.Upto.refl M1)
        rw [List.drop_zero] at c2
        exact ⟨M2, c11 (hE.trans (hF.trans c2)), u1.trans u2⟩
theorem put_C {v size : Nat} (hv : v < 2 ^ 64) (h8 : size ≤ 8) (h : OwnK .u8 M w ys) (h0 : 0 < w.2.1) (hl : w.2.1 ≤ 2 ^ 40) : ∃ (M' : Mem) (w' : SlV), C 23 [.sl w.1 w.2.1 w.2.2, .int .u64 (v : Int), .int .i64 (size : Int)] M = some (.sl w'.1 w'.2.1 w'.2.2, M') ∧ OwnK .u8 M' w' (ys ++ beB size v) ∧ w'.2.1 = w.2.1 + size ∧ Mem.But (· ∈ fpS w) M M' ∧ FreshOf M (fpS w) (fpS w') := by
  have hE := p23_0_eq C prog.meth w.1 w.2.1 w.2.2 (v : Int) (size : Int) M
  have loop : ∀ (d i : Nat) (M : Mem) (w : SlV) (ys : List Int), i + d = size → OwnK .u8 M w ys → 0 < w.2.1 → w.2.1 ≤ 2 ^ 40 + i → ∃ (M' : Mem) (w' : SlV), p23_1 C prog.meth w.1 w.2.1 w.2.2 (v : Int) (size : Int) (size : Int) (i : Int) M = some (.sl w'.1 w'.2.1 w'.2.2, M') ∧ OwnK .u8 M' w' (ys ++ beB d v) ∧ w'.2.1 = w.2.1 + d ∧ Mem.But (· ∈ fpS w) M M' ∧ FreshOf M (fpS w) (fpS w') := by
    intro d
    induction d with
    | zero =>
      intro i M w ys hi h h0 hl
      have hF := p23_1_eq C prog.meth w.1 w.2.1 w.2.2 (v : Int) (size : Int) (size : Int) (i : Int) M
      have q : ¬ ((i : Int) < (size : Int)) := by omega
      simp only [Option.bind_some, List.getElem?_cons_zero, List.getElem?_cons_succ, int?_int, AVal.bool?, AVal.ptr?, AVal.sl?, AVal.tup?, AVal.agg?, AVal.ifc?, AVal.fn?, AVal.str?, List.head?_cons, List.tail_cons, List.isEmpty_nil, cond_true, cond_false, Option.isNone_some, Option.isNone_none, Bool.not_true, Bool.not_false, decide_true, decide_false, beq_self_eq_true, bne_self_eq_false, Int.reduceBEq, Int.reduceBNe, Int.cast_ofNat_Int, q] at hF
      exact ⟨M, w, hF, by rw [beB, List.append_nil]; exact h, rfl, Mem.But.refl _ _, FreshOf.refl _ _⟩
    | succ d ih =>
      intro i M w ys hi h h0 hl
      have hF := p23_1_eq C prog.meth w.1 w.2.1 w.2.2 (v : Int) (size : Int) (size : Int) (i : Int) M
      have q : ((i : Int) < (size : Int)) := by omega
      have w1 : IntKind.wrap .i64 ((i : Int) + 1) = ((i + 1 : Nat) : Int) := by rw [wrap_i64 (by omega) (by omega)]; rfl
      have a1 : IntKind.wrap .i64 ((size : Int) - 1) = ((size - 1 : Nat) : Int) := by rw [wrap_i64 (by omega) (by omega)]; omega
      have a2 : IntKind.wrap .i64 (((size - 1 : Nat) : Int) - (i : Int)) = (d : Int) := by rw [wrap_i64 (by omega) (by omega)]; omega
      have a3 : IntKind.wrap .i64 (8 * (d : Int)) = ((8 * d : Nat) : Int) := by rw [wrap_i64 (by omega) (by omega)]; omega
      have a4 : ¬ (((8 * d : Nat) : Int) < 0) := by omega
      have a5 : IntKind.wrap .u8 (Int.fdiv (v : Int) (2 ^ Nat.min (8 * d) (IntKind.bits .u64))) = ((v / 256 ^ d % 256 : Nat) : Int) := by
        have e1 : Nat.min (8 * d) (IntKind.bits .u64) = 8 * d := Nat.min_eq_left (show 8 * d ≤ 64 by omega)
        have e2 : (2 : Int) ^ (8 * d) = ((256 ^ d : Nat) : Int) := by
          rw [show (256 : Nat) = 2 ^ 8 from rfl, ← Nat.pow_mul]; norm_cast
        rw [e1, e2, Int.fdiv_eq_ediv_of_nonneg _ (Int.natCast_nonneg _), ← Int.natCast_ediv, wu8]; omega
      obtain ⟨M1, q1, q2, q3, q4⟩ := h.push (bytes := 1) ((v / 256 ^ d % 256 : Nat) : Int) (fun e => by omega) (by omega)
      simp only [Option.bind_some, List.getElem?_cons_zero, List.getElem?_cons_succ, int?_int, AVal.bool?, AVal.ptr?, AVal.sl?, AVal.tup?, AVal.agg?, AVal.ifc?, AVal.fn?, AVal.str?, List.head?_cons, List.tail_cons, List.isEmpty_nil, cond_true, cond_false, Option.isNone_some, Option.isNone_none, Bool.not_true, Bool.not_false, decide_true, decide_false, beq_self_eq_true, bne_self_eq_false, Int.reduceBEq, Int.reduceBNe, Int.cast_ofNat_Int, q, a1, a2, a3, a4, Int.toNat_natCast, a5, w1] at hF
      rw [q1] at hF
      obtain ⟨M2, w', c2, o2, l2, b2, f2⟩ := ih (i + 1) M1 (some (M.n + 1, 0), w.2.1 + 1, .unk 0) (ys ++ [((v / 256 ^ d % 256 : Nat) : Int)]) (by omega) q2 (by simp) (by simp only; omega)
      have fp1 : fpS ((some (M.n + 1, 0), w.2.1 + 1, .unk 0) : SlV) = [M.n + 1] := fpS_own rfl (by simp)
      rw [fp1] at b2 f2
      refine ⟨M2, w', hF.trans c2, ?_, by rw [l2]; simp only; omega, q4.trans b2 (fun o ho e => ?_), fun o ho => ?_⟩
      · rw [beB_front, show ys ++ (((v / 256 ^ d % 256 : Nat) : Int) :: beB d v) = (ys ++ [((v / 256 ^ d % 256 : Nat) : Int)]) ++ beB d v by simp]; exact o2
      · simp only [List.mem_singleton] at e; omega
      · rcases f2 o ho with e | e
        · simp only [List.mem_singleton] at e; exact .inr (by omega)
        · exact .inr (by omega)
  obtain ⟨M1, w', c1, o1, l1, b1, f1⟩ := loop size 0 M w ys (by omega) h h0 (by omega)
  exact ⟨M1, w', c23 (hE.trans c1), o1, l1, b1, f1⟩
end
end Go.Proofs.Ytmkncifbammfjaa.M
namespace Go.Proofs.Ytmkncifbammfjaa.M
open Go.Abs
section
variable {M M0 M' : Mem} {ca ta w : SlV} {code : List Ins} {tabs : List (List Pr)} {ys zs : List Int} {tvs : List SlV} {mo : Nat}
structure Pk (M0 M : Mem) (w : SlV) (ys : List Int) : Prop where
  u : M0.Upto M
  o : OwnK .u8 M w ys
  pos : 0 < w.2.1
  new : ∀ o ∈ fpS w, M0.n ≤ o
theorem Pk.len (h : Pk M0 M w ys) : ys.length = w.2.1 := h.o.1
theorem Pk.put (h : Pk M0 M w ys) {v size : Nat} (hv : v < 2 ^ 64) (h8 : size ≤ 8) (hl : ys.length ≤ 2 ^ 40) : ∃ (M' : Mem) (w' : SlV), C 23 [.sl w.1 w.2.1 w.2.2, .int .u64 (v : Int), .int .i64 (size : Int)] M = some (.sl w'.1 w'.2.1 w'.2.2, M') ∧ Pk M0 M' w' (ys ++ beB size v) ∧ Mem.But (· ∈ fpS w) M M' := by
  obtain ⟨M1, w1, c1, o1, l1, b1, f1⟩ := put_C hv h8 h.o h.pos (by rw [← h.len]; omega)
  have := h.pos
  have hn := h.u.1
  exact ⟨M1, w1, c1, ⟨⟨by have := b1.1; omega, fun o ho => by rw [b1.2 o (by omega) (fun e => by have := h.new o e; omega), h.u.2 o ho]⟩, o1, by omega, fun o ho => by
    rcases f1 o ho with e | e
    · exact h.new o e
    · omega⟩, b1⟩
theorem Pk.upto (h : Pk M0 M w ys) (hu : M.Upto M') : Pk M0 M' w ys := ⟨h.u.trans hu, h.o.upto hu, h.pos, h.new⟩
theorem Pk.push (h : Pk M0 M w ys) (y : Int) (hb : ys.length ≤ 2 ^ 46) : ∃ M', (∀ {β : Type} (K : Option (Nat × Nat) → Nat → Cap → Mem → Option β), appK false 1 1 (M.alloc ⟨[.int .u8 y], .fixed⟩) w.1 w.2.1 w.2.2 (.sl (some (M.n, 0)) 1 (.known 1)) K = K (some (M.n + 1, 0)) (w.2.1 + 1) (.unk 0) M') ∧ Pk M0 M' (some (M.n + 1, 0), w.2.1 + 1, .unk 0) (ys ++ [y]) := by
  have := h.pos
  have hn := h.u.1
  have hl := h.len
  obtain ⟨M1, q1, q2, q3, q4⟩ := h.o.push (bytes := 1) y (fun e => by omega) (by omega)
  refine ⟨M1, q1, ⟨by omega, fun o ho => by rw [q4.2 o (by omega) (fun e => by have := h.new o e; omega), h.u.2 o ho]⟩, q2, by simp, fun o ho => ?_⟩
  rw [fpS_own rfl (by simp)] at ho
  simp only [List.mem_singleton] at ho
  omega
theorem drop_flat {α : Type} {f : α → List Int} {l : List α} {i : Nat} {x : α} (h : l[i]? = some x) : (l.drop i).flatMap f = f x ++ (l.drop (i + 1)).flatMap f := by
  obtain ⟨h1, h2⟩ := List.getElem?_eq_some_iff.1 h
  rw [List.drop_eq_getElem_cons h1, List.flatMap_cons, h2]
theorem pack_code {a : Option (Nat × Nat)} {l : Nat} {c : Cap} (hc : Sl M0 5 encI a l c code) (hr : ∀ x ∈ code, InsR x ∧ okA x = true) (hl : l ≤ 1000) :
    ∀ (d i : Nat) (M : Mem) (w : SlV) (ys : List Int), i + d = l → Pk M0 M w ys → ys.length + 8 * d ≤ 2 ^ 40 →
      ∃ (M' : Mem) (w' : SlV), p9_1 C prog.meth mo w.1 w.2.1 w.2.2 a l c (l : Int) (i : Int) M = p9_1 C prog.meth mo w'.1 w'.2.1 w'.2.2 a l c (l : Int) (l : Int) M' ∧ Pk M0 M' w' (ys ++ (code.drop i).flatMap (fun x => beB 8 (wdA x))) := by
  intro d
  have hlen := hc.2
  induction d with
  | zero =>
    intro i M w ys hi h hb
    obtain rfl : i = l := by omega
    refine ⟨M, w, rfl, ?_⟩
    rw [List.drop_eq_nil_of_le (by omega), List.flatMap_nil, List.append_nil]; exact h
  | succ d ih =>
    intro i M w ys hi h hb
    have hF := p9_1_eq C prog.meth mo w.1 w.2.1 w.2.2 a l c (l : Int) (i : Int) M
    have q : ((i : Int) < (l : Int)) := by omega
    have k0 : (0 : Int) ≤ (i : Int) := by omega
    have k1 : Nat.blt i l = true := Mem.blt_iff.2 (by omega)
    have w1 : IntKind.wrap .i64 ((i : Int) + 1) = ((i + 1 : Nat) : Int) := by rw [wrap_i64 (by omega) (by omega)]; rfl
    obtain ⟨p, x, hp, hx, v0, v1, v2, v3, v4⟩ := ins_ld (hc.upto encI5 (by omega) h.u) (i := i) (by omega)
    obtain ⟨M1, s1, u1, n1, x0, x1, x2, x3, x4⟩ := ibox5 M x
    obtain ⟨hxr, hxo⟩ := hr x (List.mem_of_getElem? hx)
    obtain ⟨Mc, cc, _⟩ := Encode_C (M := Mem.empty) hxr
    have eo : okB x.1 x.2.1 x.2.2.1 x.2.2.2.1 x.2.2.2.2 = true := hxo
    have ew : wordN x.1 x.2.1 x.2.2.1 x.2.2.2.1 x.2.2.2.2 = wdA x := rfl
    rw [eo, ew] at cc
    have cc : C 24 [.agg [.int .u8 (x.1 : Int), .int .u8 x.2.1, .int .u8 x.2.2.1, .int .i16 x.2.2.2.1, .int .i32 x.2.2.2.2]] Mem.empty = some (.tup [.int .u64 (wdA x : Int), .int .i64 0], Mc) := cc
    obtain ⟨M2, w2, c2, h2, b2⟩ := (h.upto u1).put (v := wdA x) (size := 8) (dec_wd hxr hxo).2 (by omega) (by omega)
    have c2 : C 23 [.sl w.1 w.2.1 w.2.2, .int .u64 (wdA x : Int), .int .i64 8] M1 = _ := c2
    simp only [Option.bind_some, List.getElem?_cons_zero, List.getElem?_cons_succ, int?_int, AVal.bool?, AVal.ptr?, AVal.sl?, AVal.tup?, AVal.agg?, AVal.ifc?, AVal.fn?, AVal.str?, List.head?_cons, List.tail_cons, List.isEmpty_nil, cond_true, cond_false, Option.isNone_some, Option.isNone_none, Bool.not_true, Bool.not_false, decide_true, decide_false, beq_self_eq_true, bne_self_eq_false, Int.reduceBEq, Int.reduceBNe, Int.cast_ofNat_Int, q, k0, k1, Int.toNat_natCast, hp, v0, v1, v2, v3, v4, s1, x0, x1, x2, x3, x4] at hF
    rw [cc, Option.bind_some] at hF
    simp only [Option.bind_some, List.getElem?_cons_zero, List.getElem?_cons_succ, int?_int, AVal.bool?, AVal.ptr?, AVal.sl?, AVal.tup?, AVal.agg?, AVal.ifc?, AVal.fn?, AVal.str?, List.head?_cons, List.tail_cons, List.isEmpty_nil, cond_true, cond_false, Option.isNone_some, Option.isNone_none, Bool.not_true, Bool.not_false, decide_true, decide_false, beq_self_eq_true, bne_self_eq_false, Int.reduceBEq, Int.reduceBNe, Int.cast_ofNat_Int] at hF
    rw [c2, Option.bind_some] at hF
    simp only [Option.bind_some, List.getElem?_cons_zero, List.getElem?_cons_succ, int?_int, AVal.bool?, AVal.ptr?, AVal.sl?, AVal.tup?, AVal.agg?, AVal.ifc?, AVal.fn?, AVal.str?, List.head?_cons, List.tail_cons, List.isEmpty_nil, cond_true, cond_false, Option.isNone_some, Option.isNone_none, Bool.not_true, Bool.not_false, decide_true, decide_false, beq_self_eq_true, bne_self_eq_false, Int.reduceBEq, Int.reduceBNe, Int.cast_ofNat_Int, w1] at hF
    obtain ⟨M3, w3, c3, h3⟩ := ih (i + 1) M2 w2 (ys ++ beB 8 (wdA x)) (by omega) h2 (by rw [List.length_append, beB_length]; omega)
    refine ⟨M3, w3, hF.trans c3, ?_⟩
    rw [drop_flat hx, ← List.append_assoc]; exact h3
theorem pack_pairs {a : Option (Nat × Nat)} {l n i : Nat} {c : Cap} {tv : SlV} {T : List Pr} (hT : Sl M0 2 encP tv.1 tv.2.1 tv.2.2 T) (hr : ∀ p ∈ T, PrR p) (hl : T.length ≤ 64) (hi : i < 1000) :
    ∀ (d k : Nat) (M : Mem) (w : SlV) (ys : List Int), k + d = tv.2.1 → Pk M0 M w ys → ys.length + 16 * d ≤ 2 ^ 40 →
      ∃ (M' : Mem) (w' : SlV), p9_3 C prog.meth w.1 w.2.1 w.2.2 a l c (n : Int) (i : Int) tv.1 tv.2.1 tv.2.2 (tv.2.1 : Int) (k : Int) M = p9_2 C prog.meth w'.1 w'.2.1 w'.2.2 a l c (n : Int) ((i + 1 : Nat) : Int) M' ∧ Pk M0 M' w' (ys ++ (T.drop k).flatMap pB) := by
  intro d
  have hlen := hT.2
  induction d with
  | zero =>
    intro k M w ys hk h hb
    have hF := p9_3_eq C prog.meth w.1 w.2.1 w.2.2 a l c (n : Int) (i : Int) tv.1 tv.2.1 tv.2.2 (tv.2.1 : Int) (k : Int) M
    have q : ¬ ((k : Int) < (tv.2.1 : Int)) := by omega
    have w1 : IntKind.wrap .i64 ((i : Int) + 1) = ((i + 1 : Nat) : Int) := by rw [wrap_i64 (by omega) (by omega)]; rfl
    simp only [Option.bind_some, List.getElem?_cons_zero, List.getElem?_cons_succ, int?_int, AVal.bool?, AVal.ptr?, AVal.sl?, AVal.tup?, AVal.agg?, AVal.ifc?, AVal.fn?, AVal.str?, List.head?_cons, List.tail_cons, List.isEmpty_nil, cond_true, cond_false, Option.isNone_some, Option.isNone_none, Bool.not_true, Bool.not_false, decide_true, decide_false, beq_self_eq_true, bne_self_eq_false, Int.reduceBEq, Int.reduceBNe, Int.cast_ofNat_Int, q, w1] at hF
    refine ⟨M, w, hF, ?_⟩
    rw [List.drop_eq_nil_of_le (by omega), List.flatMap_nil, List.append_nil]; exact h
  | succ d ih =>
    intro k M w ys hk h hb
    have hF := p9_3_eq C prog.meth w.1 w.2.1 w.2.2 a l c (n : Int) (i : Int) tv.1 tv.2.1 tv.2.2 (tv.2.1 : Int) (k : Int) M
    have q : ((k : Int) < (tv.2.1 : Int)) := by omega
    have k0 : (0 : Int) ≤ (k : Int) := by omega
    have k1 : Nat.blt k tv.2.1 = true := Mem.blt_iff.2 (by omega)
    have w1 : IntKind.wrap .i64 ((k : Int) + 1) = ((k + 1 : Nat) : Int) := by rw [wrap_i64 (by omega) (by omega)]; rfl
    obtain ⟨p, hp, v0, v1⟩ := pr_ld (hT.upto encP2 (by omega) h.u) (i := k) (by omega)
    obtain ⟨x, hx⟩ : ∃ x, T[k]'(by omega) = x := ⟨_, rfl⟩
    rw [hx] at v0 v1
    have hx' : T[k]? = some x := by rw [List.getElem?_eq_getElem (by omega), hx]
    have hxr := hr x (List.mem_of_getElem? hx')
    obtain ⟨⟨r1, r2⟩, r3, r4⟩ := hxr
    obtain ⟨M1, e1, g1, u1, n1⟩ := alloc_at M ⟨[.int .u64 0, .int .u64 0], .fixed⟩
    obtain ⟨M2, s2, g2, n2, b2⟩ := st_at (i := 0) (vs := [.int .u64 x.1, .int .u64 x.2]) g1 (by simp)
    simp only [overL] at g2
    have u2 : M.Upto M2 := ⟨by omega, fun o ho => by rw [b2.2 o (by omega) (by omega), u1.2 o ho]⟩
    have x0 : M2.ldI .u64 M.n 0 = some x.1 := by rw [ldI_at g2]; rfl
    have h2 := h.upto u2
    obtain ⟨M3, w3, c3, h3, b3⟩ := h2.put (v := x.1.toNat) (size := 8) (by omega) (by omega) (by omega)
    rw [show ((x.1.toNat : Nat) : Int) = x.1 by omega] at c3
    have c3 : C 23 [.sl w.1 w.2.1 w.2.2, .int .u64 x.1, .int .i64 8] M2 = _ := c3
    have g3 := (b3.2 M.n (by omega) (fun e => by have := h.o.lt M.n e; omega)).trans g2
    have x1 : M3.ldI .u64 M.n 1 = some x.2 := by rw [ldI_at g3]; rfl
    have t1 : M2.still M.n 1 [.int .u64 x.2] = true := still1 (by rw [ld_fix g2]; rfl)
    obtain ⟨M4, w4, c4, h4, b4⟩ := h3.put (v := x.2.toNat) (size := 8) (by omega) (by omega) (by rw [List.length_append, beB_length]; omega)
    rw [show ((x.2.toNat : Nat) : Int) = x.2 by omega] at c4
    have c4 : C 23 [.sl w3.1 w3.2.1 w3.2.2, .int .u64 x.2, .int .i64 8] M3 = _ := c4
    simp only [Option.bind_some, List.getElem?_cons_zero, List.getElem?_cons_succ, int?_int, AVal.bool?, AVal.ptr?, AVal.sl?, AVal.tup?, AVal.agg?, AVal.ifc?, AVal.fn?, AVal.str?, List.head?_cons, List.tail_cons, List.isEmpty_nil, cond_true, cond_false, Option.isNone_some, Option.isNone_none, Bool.not_true, Bool.not_false, decide_true, decide_false, beq_self_eq_true, bne_self_eq_false, Int.reduceBEq, Int.reduceBNe, Int.cast_ofNat_Int, q, k0, k1, Int.toNat_natCast, hp, v0, v1, e1, s2, x0] at hF
    rw [c3, Option.bind_some] at hF
    simp only [Option.bind_some, List.getElem?_cons_zero, List.getElem?_cons_succ, int?_int, AVal.bool?, AVal.ptr?, AVal.sl?, AVal.tup?, AVal.agg?, AVal.ifc?, AVal.fn?, AVal.str?, List.head?_cons, List.tail_cons, List.isEmpty_nil, cond_true, cond_false, Option.isNone_some, Option.isNone_none, Bool.not_true, Bool.not_false, decide_true, decide_false, beq_self_eq_true, bne_self_eq_false, Int.reduceBEq, Int.reduceBNe, Int.cast_ofNat_Int, x1] at hF
    rw [c4, Option.bind_some] at hF
    simp only [Option.bind_some, List.getElem?_cons_zero, List.getElem?_cons_succ, int?_int, AVal.bool?, AVal.ptr?, AVal.sl?, AVal.tup?, AVal.agg?, AVal.ifc?, AVal.fn?, AVal.str?, List.head?_cons, List.tail_cons, List.isEmpty_nil, cond_true, cond_false, Option.isNone_some, Option.isNone_none, Bool.not_true, Bool.not_false, decide_true, decide_false, beq_self_eq_true, bne_self_eq_false, Int.reduceBEq, Int.reduceBNe, Int.cast_ofNat_Int, t1, w1] at hF
    obtain ⟨M5, w5, c5, h5⟩ := ih (k + 1) M4 w4 (ys ++ beB 8 x.1.toNat ++ beB 8 x.2.toNat) (by omega) h4 (by rw [List.length_append, List.length_append, beB_length, beB_length]; omega)
    refine ⟨M5, w5, hF.trans c5, ?_⟩
    rw [drop_flat hx']
    unfold pB
    simp only [List.append_assoc] at h5 ⊢
    exact h5
theorem pack_tabs {a : Option (Nat × Nat)} {l : Nat} {c : Cap} (ht : Sl M0 1 encS a l c tvs) (hT : Tbs M0 tvs tabs) (hr : ∀ T ∈ tabs, (∀ p ∈ T, PrR p) ∧ T.length ≤ 64) (hl : l ≤ 100) :
    ∀ (d i : Nat) (M : Mem) (w : SlV) (ys : List Int), i + d = l → Pk M0 M w ys → ys.length + 2000 * d ≤ 2 ^ 39 →
      ∃ (M' : Mem) (w' : SlV), p9_2 C prog.meth w.1 w.2.1 w.2.2 a l c (l : Int) (i : Int) M = p9_2 C prog.meth w'.1 w'.2.1 w'.2.2 a l c (l : Int) (l : Int) M' ∧ Pk M0 M' w' (ys ++ (tabs.drop i).flatMap tabB) := by
  intro d
  have hlen := ht.2
  have hlen2 := hT.1
  induction d with
  | zero =>
    intro i M w ys hi h hb
    obtain rfl : i = l := by omega
    refine ⟨M, w, rfl, ?_⟩
    rw [List.drop_eq_nil_of_le (by omega), List.flatMap_nil, List.append_nil]; exact h
  | succ d ih =>
    intro i M w ys hi h hb
    have hF := p9_2_eq C prog.meth w.1 w.2.1 w.2.2 a l c (l : Int) (i : Int) M
    have q : ((i : Int) < (l : Int)) := by omega
    have k0 : (0 : Int) ≤ (i : Int) := by omega
    have k1 : Nat.blt i l = true := Mem.blt_iff.2 (by omega)
    obtain ⟨p, tv, hp, hx, hv⟩ := tv_ld (ht.upto encS1 (by omega) h.u) (i := i) (by omega)
    have hTi := List.getElem?_eq_getElem (show i < tabs.length by omega)
    obtain ⟨T, hTe⟩ : ∃ T, tabs[i]'(by omega) = T := ⟨_, rfl⟩
    rw [hTe] at hTi
    have sT := hT.2 i tv T hx hTi
    obtain ⟨r1, r2⟩ := hr T (List.mem_of_getElem? hTi)
    have hTl := sT.2
    have w1 : IntKind.wrap .u8 (tv.2.1 : Int) = (T.length : Int) := by rw [wu8]; omega
    obtain ⟨M1, q1, h1⟩ := h.push (T.length : Int) (by omega)
    simp only [Option.bind_some, List.getElem?_cons_zero, List.getElem?_cons_succ, int?_int, AVal.bool?, AVal.ptr?, AVal.sl?, AVal.tup?, AVal.agg?, AVal.ifc?, AVal.fn?, AVal.str?, List.head?_cons, List.tail_cons, List.isEmpty_nil, cond_true, cond_false, Option.isNone_some, Option.isNone_none, Bool.not_true, Bool.not_false, decide_true, decide_false, beq_self_eq_true, bne_self_eq_false, Int.reduceBEq, Int.reduceBNe, Int.cast_ofNat_Int, q, k0, k1, Int.toNat_natCast, hp, Nat.mul_one, hv, w1] at hF
    rw [q1] at hF
    obtain ⟨M2, w2, c2, h2⟩ := pack_pairs (a := a) (l := l) (c := c) (n := l) (i := i) sT r1 r2 (by omega) tv.2.1 0 M1 (some (M.n + 1, 0), w.2.1 + 1, .unk 0) (ys ++ [(T.length : Int)]) (by omega) h1 (by rw [List.length_append]; simp only [List.length_singleton]; omega)
    rw [List.drop_zero] at h2
    have hfl : (T.flatMap pB).length = 16 * T.length := by
      have : ∀ T : List Pr, (T.flatMap pB).length = 16 * T.length := fun T => by
        induction T with
        | nil => rfl
        | cons x T ih => rw [List.flatMap_cons, List.length_append, ih, pB_length, List.length_cons]; omega
      exact this T
    obtain ⟨M3, w3, c3, h3⟩ := ih (i + 1) M2 w2 _ (by omega) h2 (by simp only [List.length_append, List.length_singleton]; omega)
    refine ⟨M3, w3, hF.trans (c2.trans c3), ?_⟩
    rw [drop_flat hTi]
    unfold tabB
    simp only [List.append_assoc, List.singleton_append, List.cons_append] at h3 ⊢
    exact h3
structure Wfm (code : List Ins) (tabs : List (List Pr)) : Prop where
  i : ∀ x ∈ code, InsR x
  p : ∀ T ∈ tabs, ∀ p ∈ T, PrR p
open Classical in
noncomputable def packOr (code : List Ins) (tabs : List (List Pr)) : List Int := if chkM code tabs = 0 then packB code tabs else []
theorem flat_len {code : List Ins} : (code.flatMap (fun x => beB 8 (wdA x))).length = 8 * code.length := by
  induction code with
  | nil => rfl
  | cons x r ih => rw [List.flatMap_cons, List.length_append, ih, beB_length, List.length_cons]; omega
theorem pair_len (T : List Pr) : (T.flatMap pB).length = 16 * T.length := by
  induction T with
  | nil => rfl
  | cons x T ih => rw [List.flatMap_cons, List.length_append, ih, pB_length, List.length_cons]; omega
theorem tabB_len (T : List Pr) : (tabB T).length = 16 * T.length + 1 := by
  unfold tabB
  rw [List.length_cons, pair_len]
theorem tabs_len : ∀ {tabs : List (List Pr)}, (∀ T ∈ tabs, T.length ≤ 64) → (tabs.flatMap tabB).length ≤ 1025 * tabs.length
  | [], _ => by simp
  | T :: l, h => by
    have h1 := tabs_len (tabs := l) (fun x hx => h x (by simp [hx]))
    have h2 := h T (by simp)
    rw [List.flatMap_cons, List.length_append, List.length_cons, tabB_len]
    omega
theorem Pack_C (h : Md M ca ta code tabs) (hw : Wfm code tabs) : ∃ (M' : Mem) (w : SlV), C 9 [mv ca ta] M = some (.tup [.sl w.1 w.2.1 w.2.2, .int .i64 (chkM code tabs)], M') ∧ M.Upto M' ∧ OwnK .u8 M' w (packOr code tabs) ∧ ∀ o ∈ fpS w, M.n ≤ o := by
  have hE := p9_0_eq C prog.meth ca.1 ca.2.1 ca.2.2 ta.1 ta.2.1 ta.2.2 M
  obtain ⟨M1, e1, u1, n1, l0, l1⟩ := mbox M ca ta
  obtain ⟨M2, c2, u2⟩ := WCheck_C (h.upto u1) hw.i
  have c2 : C 11 [.agg [.sl ca.1 ca.2.1 ca.2.2, .sl ta.1 ta.2.1 ta.2.2]] M1 = _ := c2
  obtain ⟨lc, lt⟩ := h.lens
  simp only [Option.bind_some, List.getElem?_cons_zero, List.getElem?_cons_succ, int?_int, AVal.bool?, AVal.ptr?, AVal.sl?, AVal.tup?, AVal.agg?, AVal.ifc?, AVal.fn?, AVal.str?, List.head?_cons, List.tail_cons, List.isEmpty_nil, cond_true, cond_false, Option.isNone_some, Option.isNone_none, Bool.not_true, Bool.not_false, decide_true, decide_false, beq_self_eq_true, bne_self_eq_false, Int.reduceBEq, Int.reduceBNe, Int.cast_ofNat_Int, e1, l0, l1] at hE
  rw [c2, Option.bind_some] at hE
  unfold packOr
  by_cases hz : chkM code tabs = 0
  · rw [if_pos hz]
    have hm := chkM_zero.1 hz
    obtain ⟨⟨m1, m2⟩, m3, m4, m5⟩ := hm
    have q0 : (chkM code tabs != 0) = false := by simp [hz]
    obtain ⟨M3, e3, g3, u3, n3⟩ := alloc_at M2 ⟨[.int .u8 115, .int .u8 112, .int .u8 108, .int .u8 121], .fixed⟩
    have g4 := get_put_self (M := M3) (o := M2.n) (x := ⟨[.int .u8 115, .int .u8 112, .int .u8 108, .int .u8 121], .grow 1⟩) (by omega)
    obtain ⟨M4, e4⟩ : ∃ M4, M3.put M2.n ⟨[.int .u8 115, .int .u8 112, .int .u8 108, .int .u8 121], .grow 1⟩ = M4 := ⟨_, rfl⟩
    rw [e4] at g4
    have n4 : M4.n = M3.n := by rw [← e4]; rfl
    have u4 : M.Upto M4 := ⟨by have := u1.1; have := u2.1; omega, fun o ho => by
      have := u1.1; have := u2.1
      rw [← e4, get_put_ne (by omega), u3.2 o (by omega), u2.2 o (by omega), u1.2 o ho]⟩
    have u14 : M1.Upto M4 := ⟨by have := u2.1; omega, fun o ho => by
      have := u2.1
      rw [← e4, get_put_ne (by omega), u3.2 o (by omega), u2.2 o ho]⟩
    have l1' := ldL_upto l1 u14
    have l0' := ldL_upto l0 u14
    have w1 : IntKind.wrap .u8 (ta.2.1 : Int) = (tabs.length : Int) := by rw [wu8]; omega
    have y3 : (AObj.mk [.int .u8 115, .int .u8 112, .int .u8 108, .int .u8 121] .fixed).fix = some () := rfl
    simp only [Option.bind_some, List.getElem?_cons_zero, List.getElem?_cons_succ, int?_int, AVal.bool?, AVal.ptr?, AVal.sl?, AVal.tup?, AVal.agg?, AVal.ifc?, AVal.fn?, AVal.str?, List.head?_cons, List.tail_cons, List.isEmpty_nil, cond_true, cond_false, Option.isNone_some, Option.isNone_none, Bool.not_true, Bool.not_false, decide_true, decide_false, beq_self_eq_true, bne_self_eq_false, Int.reduceBEq, Int.reduceBNe, Int.cast_ofNat_Int, q0, e3, slPtr, g3, y3, e4, l1', w1] at hE
    obtain ⟨M5, e5, g5, u5, n5⟩ := alloc_at M4 ⟨[.int .u8 1, .int .u8 (tabs.length : Int)], .fixed⟩
    simp only [e5] at hE
    have g45 := u5.get g4
    have r1 : M5.raws 1 (some (M2.n, 0)) 4 (.known 4) = some ([115, 112, 108, 121].map (AVal.int .u8)) := ints_raws.1 (ints_whole (xs := [115, 112, 108, 121]) (k := .u8) (c := .known 4) g45 (by simp) rfl)
    have r2 : M5.raws 1 (some (M4.n, 0)) 2 (.known 2) = some ([1, (tabs.length : Int)].map (AVal.int .u8)) := ints_raws.1 (ints_whole (xs := [1, (tabs.length : Int)]) (k := .u8) (c := .known 2) g5 (by simp) rfl)
    rw [appK_more r1 r2 (by omega) (by omega)] at hE
    obtain ⟨M6, e6, g6, u6, n6⟩ := alloc_at M5 ⟨[115, 112, 108, 121].map (AVal.int .u8) ++ [1, (tabs.length : Int)].map (AVal.int .u8), .grow 1⟩
    simp only [e6] at hE
    have u56 := u5.trans u6
    have l0'' := ldL_upto l0' u56
    have u16 : M1.Upto M6 := u14.trans u56
    have hP : Pk M1 M6 (some (M5.n, 0), 6, .unk 0) [115, 112, 108, 121, 1, (tabs.length : Int)] := ⟨u16, ⟨rfl, fun _ => ⟨M5.n, rfl, rfl, g6⟩⟩, by simp, fun o ho => by
      rw [fpS_own rfl (by simp)] at ho
      simp only [List.mem_singleton] at ho
      have := u14.1; omega⟩
    have w2 : IntKind.wrap .u64 (ca.2.1 : Int) = (code.length : Int) := by rw [wu64]; omega
    obtain ⟨M7, w7, c7, h7, b7⟩ := hP.put (v := code.length) (size := 2) (by omega) (by omega) (by simp)
    have c7 : C 23 [.sl (some (M5.n, 0)) 6 (.unk 0), .int .u64 (code.length : Int), .int .i64 2] M6 = _ := c7
    have l07 := ldL_upto l0 h7.u
    simp only [Option.bind_some, List.getElem?_cons_zero, List.getElem?_cons_succ, int?_int, AVal.bool?, AVal.ptr?, AVal.sl?, AVal.tup?, AVal.agg?, AVal.ifc?, AVal.fn?, AVal.str?, List.head?_cons, List.tail_cons, List.isEmpty_nil, cond_true, cond_false, Option.isNone_some, Option.isNone_none, Bool.not_true, Bool.not_false, decide_true, decide_false, beq_self_eq_true, bne_self_eq_false, Int.reduceBEq, Int.reduceBNe, Int.cast_ofNat_Int, l0'', w2] at hE
    rw [c7, Option.bind_some] at hE
    simp only [Option.bind_some, List.getElem?_cons_zero, List.getElem?_cons_succ, int?_int, AVal.bool?, AVal.ptr?, AVal.sl?, AVal.tup?, AVal.agg?, AVal.ifc?, AVal.fn?, AVal.str?, List.head?_cons, List.tail_cons, List.isEmpty_nil, cond_true, cond_false, Option.isNone_some, Option.isNone_none, Bool.not_true, Bool.not_false, decide_true, decide_false, beq_self_eq_true, bne_self_eq_false, Int.reduceBEq, Int.reduceBNe, Int.cast_ofNat_Int, l07] at hE
    obtain ⟨hc, tvs, ht, hT⟩ := h.upto u1
    obtain ⟨M8, w8, c8, h8⟩ := pack_code (mo := M.n) hc (fun x hx => ⟨hw.i x hx, m4 x hx⟩) (by omega) ca.2.1 0 M7 w7 _ (by omega) h7 (by simp [beB_length]; omega)
    rw [List.drop_zero] at h8
    have hG := p9_1_eq C prog.meth M.n w8.1 w8.2.1 w8.2.2 ca.1 ca.2.1 ca.2.2 (ca.2.1 : Int) (ca.2.1 : Int) M8
    have q1 : ¬ ((ca.2.1 : Int) < (ca.2.1 : Int)) := by omega
    have l18 := ldL_upto l1 h8.u
    simp only [Option.bind_some, List.getElem?_cons_zero, List.getElem?_cons_succ, int?_int, AVal.bool?, AVal.ptr?, AVal.sl?, AVal.tup?, AVal.agg?, AVal.ifc?, AVal.fn?, AVal.str?, List.head?_cons, List.tail_cons, List.isEmpty_nil, cond_true, cond_false, Option.isNone_some, Option.isNone_none, Bool.not_true, Bool.not_false, decide_true, decide_false, beq_self_eq_true, bne_self_eq_false, Int.reduceBEq, Int.reduceBNe, Int.cast_ofNat_Int, q1, l18] at hG
    obtain ⟨M9, w9, cc9, h9⟩ := pack_tabs ht hT (fun T hTm => ⟨hw.p T hTm, (m5 T hTm).1⟩) (by omega) ta.2.1 0 M8 w8 _ (by omega) h8 (by simp only [List.length_append, beB_length, flat_len, List.length_cons, List.length_nil]; omega)
    rw [List.drop_zero] at h9
    have eB : [115, 112, 108, 121, 1, (tabs.length : Int)] ++ beB 2 code.length ++ code.flatMap (fun x => beB 8 (wdA x)) ++ tabs.flatMap tabB = bodyB code tabs := by
      unfold bodyB headB; simp only [List.append_assoc]
    rw [eB] at h9
    have hK := p9_2_eq C prog.meth w9.1 w9.2.1 w9.2.2 ta.1 ta.2.1 ta.2.2 (ta.2.1 : Int) (ta.2.1 : Int) M9
    have q2 : ¬ ((ta.2.1 : Int) < (ta.2.1 : Int)) := by omega
    have hbl : (bodyB code tabs).length ≤ 100000 := by
      have := tabs_len (tabs := tabs) (fun T hTm => (m5 T hTm).1)
      rw [← eB]
      simp only [List.length_append, beB_length, flat_len, List.length_cons, List.length_nil]
      omega
    have hbb : Byt (bodyB code tabs) := by
      rw [← eB]
      have b1 : Byt [115, 112, 108, 121, 1, (tabs.length : Int)] := fun c hc => by
        simp only [List.mem_cons, List.not_mem_nil, or_false] at hc; omega
      refine Byt.app.2 ⟨Byt.app.2 ⟨Byt.app.2 ⟨b1, beB_byt _ _⟩, fun c hc => ?_⟩, fun c hc => ?_⟩
      · obtain ⟨x, _, hx⟩ := List.mem_flatMap.1 hc; exact beB_byt _ _ c hx
      · obtain ⟨T, hTm, hx⟩ := List.mem_flatMap.1 hc
        unfold tabB at hx
        rcases List.mem_cons.1 hx with rfl | hx
        · have := (m5 T hTm).1; omega
        · obtain ⟨y, _, hy⟩ := List.mem_flatMap.1 hx; exact pB_byt y c hy
    have cF := Field_C h9.o.ints hbb (by have := h9.len; omega)
    have w3 : IntKind.wrap .u64 (fieldA (bodyB code tabs) : Int) = (fieldA (bodyB code tabs) : Int) := by
      have := fieldA_lt (bodyB code tabs); rw [wu64]; omega
    obtain ⟨Ma', wa, c10, h10, b10⟩ := h9.put (v := fieldA (bodyB code tabs)) (size := 2) (by have := fieldA_lt (bodyB code tabs); omega) (by omega) (by omega)
    have c10 : C 23 [.sl w9.1 w9.2.1 w9.2.2, .int .u64 (fieldA (bodyB code tabs) : Int), .int .i64 2] M9 = _ := c10
    simp only [Option.bind_some, List.getElem?_cons_zero, List.getElem?_cons_succ, int?_int, AVal.bool?, AVal.ptr?, AVal.sl?, AVal.tup?, AVal.agg?, AVal.ifc?, AVal.fn?, AVal.str?, List.head?_cons, List.tail_cons, List.isEmpty_nil, cond_true, cond_false, Option.isNone_some, Option.isNone_none, Bool.not_true, Bool.not_false, decide_true, decide_false, beq_self_eq_true, bne_self_eq_false, Int.reduceBEq, Int.reduceBNe, Int.cast_ofNat_Int, q2] at hK
    rw [cF, Option.bind_some] at hK
    simp only [Option.bind_some, List.getElem?_cons_zero, List.getElem?_cons_succ, int?_int, AVal.bool?, AVal.ptr?, AVal.sl?, AVal.tup?, AVal.agg?, AVal.ifc?, AVal.fn?, AVal.str?, List.head?_cons, List.tail_cons, List.isEmpty_nil, cond_true, cond_false, Option.isNone_some, Option.isNone_none, Bool.not_true, Bool.not_false, decide_true, decide_false, beq_self_eq_true, bne_self_eq_false, Int.reduceBEq, Int.reduceBNe, Int.cast_ofNat_Int, w3] at hK
    rw [c10, Option.bind_some] at hK
    simp only [Option.bind_some, List.getElem?_cons_zero, List.getElem?_cons_succ, int?_int, AVal.bool?, AVal.ptr?, AVal.sl?, AVal.tup?, AVal.agg?, AVal.ifc?, AVal.fn?, AVal.str?, List.head?_cons, List.tail_cons, List.isEmpty_nil, cond_true, cond_false, Option.isNone_some, Option.isNone_none, Bool.not_true, Bool.not_false, decide_true, decide_false, beq_self_eq_true, bne_self_eq_false, Int.reduceBEq, Int.reduceBNe, Int.cast_ofNat_Int] at hK
    refine ⟨Ma', wa, by rw [hz]; exact c9 (hE.trans (c8.trans (hG.trans (cc9.trans hK)))), u1.trans h10.u, h10.o, fun o ho => by have := h10.new o ho; omega⟩
  · rw [if_neg hz]
    have q0 : (chkM code tabs != 0) = true := by simp [hz]
    simp only [Option.bind_some, List.getElem?_cons_zero, List.getElem?_cons_succ, int?_int, AVal.bool?, AVal.ptr?, AVal.sl?, AVal.tup?, AVal.agg?, AVal.ifc?, AVal.fn?, AVal.str?, List.head?_cons, List.tail_cons, List.isEmpty_nil, cond_true, cond_false, Option.isNone_some, Option.isNone_none, Bool.not_true, Bool.not_false, decide_true, decide_false, beq_self_eq_true, bne_self_eq_false, Int.reduceBEq, Int.reduceBNe, Int.cast_ofNat_Int, q0] at hE
    exact ⟨M2, (none, 0, .known 0), c9 hE, u1.trans u2, OwnK.nil _ _, fun o ho => by rw [fpS_zero rfl] at ho; simp at ho⟩
end
end Go.Proofs.Ytmkncifbammfjaa.M
namespace Go.Proofs.Ytmkncifbammfjaa.M
open Go.Abs
section
variable {M M0 M' : Mem} {ca ta w : SlV} {code : List Ins} {tabs : List (List Pr)} {ys zs : List Int} {tvs : List SlV} {mo : Nat}
theorem body_len {code : List Ins} {tabs : List (List Pr)} (hm : Okm code tabs) : (bodyB code tabs).length ≤ 100000 := by
  have := tabs_len (tabs := tabs) (fun T hTm => (hm.tok T hTm).1)
  have h1 := hm.nc
  have h2 := hm.nt
  unfold bodyB headB
  simp only [List.length_append, beB_length, flat_len, List.length_cons, List.length_nil]
  omega
theorem body_byt {code : List Ins} {tabs : List (List Pr)} (hm : Okm code tabs) : Byt (bodyB code tabs) := by
  have h2 := hm.nt
  have b1 : Byt [115, 112, 108, 121, 1, (tabs.length : Int)] := fun c hc => by
    simp only [List.mem_cons, List.not_mem_nil, or_false] at hc; omega
  unfold bodyB headB
  refine Byt.app.2 ⟨Byt.app.2 ⟨b1, beB_byt _ _⟩, Byt.app.2 ⟨fun c hc => ?_, fun c hc => ?_⟩⟩
  · obtain ⟨x, _, hx⟩ := List.mem_flatMap.1 hc; exact beB_byt _ _ c hx
  · obtain ⟨T, hTm, hx⟩ := List.mem_flatMap.1 hc
    unfold tabB at hx
    rcases List.mem_cons.1 hx with rfl | hx
    · have := (hm.tok T hTm).1; omega
    · obtain ⟨y, _, hy⟩ := List.mem_flatMap.1 hx; exact pB_byt y c hy
theorem pack_byt {code : List Ins} {tabs : List (List Pr)} (hm : Okm code tabs) : Byt (packB code tabs) := Byt.app.2 ⟨body_byt hm, beB_byt _ _⟩
theorem pack_len {code : List Ins} {tabs : List (List Pr)} (hm : Okm code tabs) : (packB code tabs).length ≤ 100002 := by
  have := body_len hm
  unfold packB
  rw [List.length_append, beB_length]; omega
end
end Go.Proofs.Ytmkncifbammfjaa.M
