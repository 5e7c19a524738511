import Derived.Test.YtjcakemgghfflaaXOk
set_option linter.unusedVariables false
set_option linter.unusedSimpArgs false
namespace Go.Abs
open Go.RowKit
theorem int?_some {k : IntKind} {v : AVal} {n : Int} (h : v.int? k = some n) : v = .int k n := by
  cases v <;> simp [AVal.int?, cond_none] at h
  obtain ⟨rfl, rfl⟩ := h; rfl
theorem bool?_some {v : AVal} {b : Bool} (h : v.bool? = some b) : v = .bool b := by cases v <;> simp [AVal.bool?] at h; rw [h]
theorem str?_some {v : AVal} {b : ByteArray} (h : v.str? = some b) : v = .str b := by cases v <;> simp [AVal.str?] at h; rw [h]
theorem ptr?_some {v : AVal} {b} (h : v.ptr? = some b) : v = .ptr b := by cases v <;> simp [AVal.ptr?] at h; rw [h]
theorem sl?_some {v : AVal} {p} (h : v.sl? = some p) : v = .sl p.1 p.2.1 p.2.2 := by cases v <;> simp [AVal.sl?] at h; subst h; rfl
theorem fn?_some {v : AVal} {p} (h : v.fn? = some p) : v = .fn p.1 p.2.1 p.2.2 := by cases v <;> simp [AVal.fn?] at h; subst h; rfl
theorem ifc?_some {v : AVal} {p} (h : v.ifc? = some p) : v = .ifc p.1 p.2 := by cases v <;> simp [AVal.ifc?] at h; subst h; rfl
theorem agg?_some {v : AVal} {p} (h : v.agg? = some p) : v = .agg p := by cases v <;> simp [AVal.agg?] at h; subst h; rfl
theorem tup?_some {v : AVal} {p} (h : v.tup? = some p) : v = .tup p := by cases v <;> simp [AVal.tup?] at h; subst h; rfl
theorem ptrK_some {β : Type} {v : AVal} {K : Nat → Nat → Option β} {r : β} (h : ptrK v K = some r) : ∃ o i, v = .ptr (some (o, i)) ∧ K o i = some r := by
  simp only [ptrK, bind_some'] at h
  obtain ⟨a, h1, p, h2, h⟩ := h
  subst h2
  exact ⟨p.1, p.2, ptr?_some h1, h⟩
theorem asNat_some {β : Type} {fc : Bool} {v : AVal} {K : Nat → Option β} {r : β} (h : asNat fc v K = some r) : ∃ k i, v = .int k i ∧ 0 ≤ i ∧ K i.toNat = some r := by
  cases v <;> simp [asNat, cond_none] at h
  exact ⟨_, _, rfl, h.1, h.2⟩
theorem asNatO_some {β : Type} {fc : Bool} {v : Option AVal} {d : Nat} {K : Nat → Option β} {r : β} (h : asNatO fc v d K = some r) :
    (v = none ∧ K d = some r) ∨ ∃ k i, v = some (.int k i) ∧ 0 ≤ i ∧ K i.toNat = some r := by
  cases v with
  | none => exact .inl ⟨rfl, h⟩
  | some v => replace h := asNat_some (by exact h); obtain ⟨k, i, rfl, h⟩ := h; exact .inr ⟨k, i, rfl, h⟩
def K0 : AVal → Mem → Option (AVal × Mem) := fun v M => some (v, M)
section
variable {P : Program} {σ : Env} {B : Nat → Prop} {w0 w : World} {M M' : Mem} {fr : Fr} {act : Act} {o : Oper} {next : Act → World → Prop} {Q : Exit → Act → World → Prop}
variable {fc : Bool} {call : CallF} {meth : MethF} {v : AVal}
theorem s_mov (hr : Rep σ B w0 M w) (hf : FrR σ M.n fr act.tmps) {x : Operand} {y : AOpd} (ho : o.op = .move x ∨ o.op = .assign x) (hk : okOpd x y = true)
    (he : evalOp fc call meth (.mov y) fr M K0 = some (v, M')) (hd : Done σ B w0 M next act o.dst v M') : o.wp P act w next Q := by
  simp only [evalOp, ev_eq, bind_some', K0, Option.some.injEq, Prod.mk.injEq] at he
  obtain ⟨a, ha, rfl, rfl⟩ := he
  obtain ⟨e1, e2⟩ := opd_ok hf hk ha
  refine wp_pure hr ?_ e2 hd
  rcases ho with ho | ho <;> simp [execOp, ho, e1]
theorem s_pick (hr : Rep σ B w0 M w) (hf : FrR σ M.n fr act.tmps) {c a b : Operand} {c' a' b' : AOpd} (ho : o.op = .pick c a b) (hk : okOpd c c' = true ∧ okOpd a a' = true ∧ okOpd b b' = true)
    (he : evalOp fc call meth (.pick c' a' b') fr M K0 = some (v, M')) (hd : Done σ B w0 M next act o.dst v M') : o.wp P act w next Q := by
  simp only [evalOp, ev_eq, bind_some', K0] at he
  obtain ⟨vc, hc, t, ht, he⟩ := he
  obtain rfl := bool?_some ht
  obtain ⟨e1, -⟩ := opd_ok hf hk.1 hc
  cases t with
  | true =>
    simp only [cond_true, bind_some', Option.some.injEq, Prod.mk.injEq] at he
    obtain ⟨x, hx, rfl, rfl⟩ := he
    obtain ⟨e2, e3⟩ := opd_ok hf hk.2.1 hx
    exact wp_pure hr (by simp [execOp, ho, e1, e2, conc, asBool]) e3 hd
  | false =>
    simp only [cond_false, bind_some', Option.some.injEq, Prod.mk.injEq] at he
    obtain ⟨x, hx, rfl, rfl⟩ := he
    obtain ⟨e2, e3⟩ := opd_ok hf hk.2.2 hx
    exact wp_pure hr (by simp [execOp, ho, e1, e2, conc, asBool]) e3 hd
theorem s_load1 (hr : Rep σ B w0 M w) (hf : FrR σ M.n fr act.tmps) {t : TypeId} {c : CTy} {x : Operand} {x' : AOpd} (ho : o.op = .load t x) (hk : isAggB P t = some false ∧ okOpd x x' = true)
    (he : evalOp fc call meth (.load1 c x') fr M K0 = some (v, M')) (hd : Done σ B w0 M next act o.dst v M') : o.wp P act w next Q := by
  simp only [evalOp, ev_eq, bind_some', K0] at he
  obtain ⟨a, ha, he⟩ := he
  replace he := ptrK_some he
  obtain ⟨q, i, rfl, he⟩ := he
  replace he := ldT_some he
  obtain ⟨u, hu, he⟩ := he
  obtain ⟨rfl, rfl⟩ := Prod.mk.inj (Option.some.inj he)
  obtain ⟨e1, -⟩ := opd_ok hf hk.2 ha
  refine wp_pure hr ?_ (hr.cell hu).2.1 hd
  simp only [execOp, ho, e1, conc, Option.map_some, Instr.loadAt, Instr.sureAddr, loadVar, Sem.run_bind, Sem.run_pure, Result.andThen_ok, isAggB_run hk.1]
  simp [run_load1 hr hu]
theorem s_loadA (hr : Rep σ B w0 M w) (hf : FrR σ M.n fr act.tmps) {t : TypeId} {ts : List CTy} {x : Operand} {x' : AOpd} (ho : o.op = .load t x) (hk : isAggB P t = some true ∧ sizeB P t = some ts.length ∧ okOpd x x' = true)
    (he : evalOp fc call meth (.loadA ts x') fr M K0 = some (v, M')) (hd : Done σ B w0 M next act o.dst v M') : o.wp P act w next Q := by
  simp only [evalOp, ev_eq, bind_some', K0] at he
  obtain ⟨a, ha, he⟩ := he
  replace he := ptrK_some he
  obtain ⟨q, i, rfl, he⟩ := he
  replace he := ldTs_some he
  obtain ⟨vs, hl, hv, he⟩ := he
  obtain ⟨rfl, rfl⟩ := Prod.mk.inj (Option.some.inj he)
  obtain ⟨e1, -⟩ := opd_ok hf hk.2.2 ha
  have hall : okL M.n vs ∧ vs.all AVal.flat = true := by
    refine ⟨(okL_iff _ _).2 fun y hy => ?_, List.all_eq_true.2 fun y hy => ?_⟩ <;> obtain ⟨j, hj⟩ := List.mem_iff_getElem?.1 hy
    · exact (hr.cell (hv j y hj)).2.1
    · exact (hr.cell (hv j y hj)).2.2
  refine wp_pure hr ?_ (by simp only [ok]; exact hall) hd
  simp only [execOp, ho, e1, conc, Option.map_some, Instr.loadAt, Instr.sureAddr, loadVar, Sem.run_bind, Sem.run_pure, Result.andThen_ok, isAggB_run hk.1, sizeB_run hk.2.1]
  simp only [if_true, Sem.run_bind, sizeB_run hk.2.1, Result.andThen_ok]
  rw [← hl, run_loads hr hv]
  rfl
theorem s_nilCk (hr : Rep σ B w0 M w) (hf : FrR σ M.n fr act.tmps) {x : Operand} {x' : AOpd} (ho : o.op = .nilCheck x) (hk : okOpd x x' = true)
    (he : evalOp fc call meth (.nilCk x') fr M K0 = some (v, M')) (hd : Done σ B w0 M next act o.dst v M') : o.wp P act w next Q := by
  simp only [evalOp, ev_eq, bind_some', K0] at he
  obtain ⟨a, ha, he⟩ := he
  obtain ⟨e1, e2⟩ := opd_ok hf hk ha
  have : v = a ∧ M' = M ∧ conc σ a ≠ .pointer none ∧ conc σ a ≠ .nilIface ∧ conc σ a ≠ .nilFunc ∧ ∀ name first captured, conc σ a ≠ .func (.method name) first captured := by
    cases a with
    | ptr p => cases p with
      | none => simp at he
      | some p => simp at he; obtain ⟨rfl, rfl⟩ := he; simp [conc]
    | fn f b c => cases f with
      | none => simp at he
      | some f => simp at he; obtain ⟨rfl, rfl⟩ := he; simp [conc]
    | ifc t u => cases t with
      | none => simp at he
      | some t => simp at he; obtain ⟨rfl, rfl⟩ := he; simp [conc]
    | _ => simp at he
  obtain ⟨rfl, rfl, h1, h2, h3, h4⟩ := this
  refine wp_pure hr ?_ e2 hd
  simp only [execOp, ho, e1]
  generalize hy : conc σ v = y at *
  cases y with
  | pointer p => cases p with
    | none => exact absurd rfl h1
    | some p => rfl
  | nilIface => exact absurd rfl h2
  | nilFunc => exact absurd rfl h3
  | func fn first captured => cases fn with
    | method name => exact absurd rfl (h4 _ _ _)
    | _ => rfl
  | _ => rfl
theorem s_ext (hr : Rep σ B w0 M w) (hf : FrR σ M.n fr act.tmps) {x : Operand} {x' : AOpd} {i : Nat} (ho : o.op = .extract x i) (hk : okOpd x x' = true)
    (he : evalOp fc call meth (.ext x' i) fr M K0 = some (v, M')) (hd : Done σ B w0 M next act o.dst v M') : o.wp P act w next Q := by
  simp only [evalOp, ev_eq, bind_some', K0] at he
  obtain ⟨a, ha, l, hl, u, hu, he⟩ := he
  obtain ⟨rfl, rfl⟩ := Prod.mk.inj (Option.some.inj he)
  obtain rfl := tup?_some hl
  obtain ⟨e1, e2⟩ := opd_ok hf hk ha
  simp only [ok] at e2
  refine wp_pure hr ?_ ((okL_iff _ _).1 e2 u (List.mem_of_getElem? hu)) hd
  simp [execOp, ho, e1, conc, Instr.extract, concL_eq, hu]
theorem s_fldA (hr : Rep σ B w0 M w) (hf : FrR σ M.n fr act.tmps) {t : TypeId} {i : Nat} {off : Nat} {x : Operand} {x' : AOpd} (ho : o.op = .fieldAddr t x i) (hk : (∃ f, fieldOf P t i = some f ∧ f.offset = off ∧ ∃ n, sizeB P f.type = some n ∧ n ≠ 0) ∧ okOpd x x' = true)
    (he : evalOp fc call meth (.fldA off x') fr M K0 = some (v, M')) (hd : Done σ B w0 M next act o.dst v M') : o.wp P act w next Q := by
  simp only [evalOp, ev_eq, bind_some', K0] at he
  obtain ⟨a, ha, he⟩ := he
  replace he := ptrK_some he
  obtain ⟨q, j, rfl, he⟩ := he
  obtain ⟨rfl, rfl⟩ := Prod.mk.inj (Option.some.inj he)
  obtain ⟨⟨f, hfo, rfl, n, hn, hn0⟩, hk⟩ := hk
  obtain ⟨e1, e2⟩ := opd_ok hf hk ha
  refine wp_pure hr ?_ (by simpa [ok, lt1] using e2) hd
  unfold fieldOf at hfo
  cases hu : P.underlying t with
  | none => simp [hu] at hfo
  | some d =>
    cases d <;> simp [hu] at hfo
    rename_i fs
    simp [execOp, ho, e1, conc, Instr.fieldAt, run_underlying hu, hfo, Instr.sureAddr, fieldPlace, sizeB_run hn, hn0]
    simpa using cAddr_add σ q j f.offset
theorem s_fld1 (hr : Rep σ B w0 M w) (hf : FrR σ M.n fr act.tmps) {t : TypeId} {i : Nat} {off : Nat} {x : Operand} {x' : AOpd} (ho : o.op = .field t x i) (hk : (∃ f, fieldOf P t i = some f ∧ f.offset = off ∧ isAggB P f.type = some false) ∧ okOpd x x' = true)
    (he : evalOp fc call meth (.fld1 off x') fr M K0 = some (v, M')) (hd : Done σ B w0 M next act o.dst v M') : o.wp P act w next Q := by
  simp only [evalOp, ev_eq, bind_some', K0] at he
  obtain ⟨a, ha, l, hl, u, hu, he⟩ := he
  obtain ⟨rfl, rfl⟩ := Prod.mk.inj (Option.some.inj he)
  obtain rfl := agg?_some hl
  obtain ⟨⟨f, hfo, rfl, hn⟩, hk⟩ := hk
  obtain ⟨e1, e2⟩ := opd_ok hf hk ha
  simp only [ok] at e2
  refine wp_pure hr ?_ ((okL_iff _ _).1 e2.1 u (List.mem_of_getElem? hu)) hd
  unfold fieldOf at hfo
  cases hu' : P.underlying t with
  | none => simp [hu'] at hfo
  | some d =>
    cases d <;> simp [hu'] at hfo
    rename_i fs
    simp [execOp, ho, e1, conc, Instr.field, run_underlying hu', hfo, asAgg, part, isAggB_run hn, concL_eq, hu]
theorem s_fldG (hr : Rep σ B w0 M w) (hf : FrR σ M.n fr act.tmps) {t : TypeId} {i : Nat} {off n : Nat} {x : Operand} {x' : AOpd} (ho : o.op = .field t x i) (hk : (∃ f, fieldOf P t i = some f ∧ f.offset = off ∧ isAggB P f.type = some true ∧ sizeB P f.type = some n) ∧ okOpd x x' = true)
    (he : evalOp fc call meth (.fldG off n x') fr M K0 = some (v, M')) (hd : Done σ B w0 M next act o.dst v M') : o.wp P act w next Q := by
  simp only [evalOp, ev_eq, bind_some', K0] at he
  obtain ⟨a, ha, l, hl, he⟩ := he
  obtain ⟨rfl, rfl⟩ := Prod.mk.inj (Option.some.inj he)
  obtain rfl := agg?_some hl
  obtain ⟨⟨f, hfo, rfl, hn, hs⟩, hk⟩ := hk
  obtain ⟨e1, e2⟩ := opd_ok hf hk ha
  simp only [ok] at e2
  have hsub : ∀ y, y ∈ (l.drop f.offset).take n → y ∈ l := fun y hy => List.mem_of_mem_drop (List.mem_of_mem_take hy)
  refine wp_pure hr ?_ (by simp only [ok]; exact ⟨(okL_iff _ _).2 fun y hy => (okL_iff _ _).1 e2.1 y (hsub y hy), List.all_eq_true.2 fun y hy => List.all_eq_true.1 e2.2 y (hsub y hy)⟩) hd
  unfold fieldOf at hfo
  cases hu' : P.underlying t with
  | none => simp [hu'] at hfo
  | some d =>
    cases d <;> simp [hu'] at hfo
    rename_i fs
    simp [execOp, ho, e1, conc, Instr.field, run_underlying hu', hfo, asAgg, part, isAggB_run hn, sizeB_run hs, concL_eq, List.map_take, List.map_drop]
    try (rw [List.take_drop]; simp [Nat.add_comm])
theorem s_ixS (hr : Rep σ B w0 M w) (hf : FrR σ M.n fr act.tmps) {t : TypeId} {size : Nat} {x i : Operand} {x' i' : AOpd} (ho : o.op = .indexAddr t x i) (hk : (∃ e, P.underlying t = some (.slice e) ∧ sizeB P e = some size) ∧ okOpd x x' = true ∧ okOpd i i' = true)
    (he : evalOp fc call meth (.ixS size x' i') fr M K0 = some (v, M')) (hd : Done σ B w0 M next act o.dst v M') : o.wp P act w next Q := by
  simp only [evalOp, ev_eq, bind_some', K0] at he
  obtain ⟨a, ha, b, hb, p, hp, he⟩ := he
  replace he := asNat_some he
  obtain ⟨k, n, rfl, hn, he⟩ := he
  simp only [cond_none, bind_some'] at he
  obtain ⟨hlt, q, hq, he⟩ := he
  obtain ⟨rfl, rfl⟩ := Prod.mk.inj (Option.some.inj he)
  obtain rfl := sl?_some hp
  obtain ⟨⟨e, hu, hs⟩, hk1, hk2⟩ := hk
  obtain ⟨e1, e2⟩ := opd_ok hf hk1 ha
  obtain ⟨e3, -⟩ := opd_ok hf hk2 hb
  have hq' := slA_ptr (σ := σ) hq
  simp only [ok, (slPtr_some hq).1, lt1] at e2
  refine wp_pure hr ?_ (by simpa [ok, lt1] using e2) hd
  have hlt := Mem.blt_iff.1 hlt
  have hlt' : 0 ≤ n ∧ n < (p.2.1 : Int) := ⟨hn, by omega⟩
  have hca : (cAddr σ q).add (n.toNat * size) = cAddr σ (q.1, q.2 + n.toNat * size) := cAddr_add σ q.1 q.2 _
  simp [execOp, ho, e1, e3, conc, hq', Instr.indexAt, asIntOf, run_underlying hu, hlt', sizeB_run hs, hca]
theorem s_ixA (hr : Rep σ B w0 M w) (hf : FrR σ M.n fr act.tmps) {t : TypeId} {m size : Nat} {x i : Operand} {x' i' : AOpd} (ho : o.op = .indexAddr t x i) (hk : (∃ e, P.underlying t = some (.array m e) ∧ sizeB P e = some size) ∧ okOpd x x' = true ∧ okOpd i i' = true)
    (he : evalOp fc call meth (.ixA m size x' i') fr M K0 = some (v, M')) (hd : Done σ B w0 M next act o.dst v M') : o.wp P act w next Q := by
  simp only [evalOp, ev_eq, bind_some', K0] at he
  obtain ⟨a, ha, b, hb, he⟩ := he
  replace he := ptrK_some he
  obtain ⟨q, j, rfl, he⟩ := he
  replace he := asNat_some he
  obtain ⟨k, n, rfl, hn, he⟩ := he
  simp only [cond_none] at he
  obtain ⟨hlt, he⟩ := he
  obtain ⟨rfl, rfl⟩ := Prod.mk.inj (Option.some.inj he)
  obtain ⟨⟨e, hu, hs⟩, hk1, hk2⟩ := hk
  obtain ⟨e1, e2⟩ := opd_ok hf hk1 ha
  obtain ⟨e3, -⟩ := opd_ok hf hk2 hb
  refine wp_pure hr ?_ (by simpa [ok, lt1] using e2) hd
  have hlt := Mem.blt_iff.1 hlt
  have hlt' : 0 ≤ n ∧ n < (m : Int) := ⟨hn, by omega⟩
  simp [execOp, ho, e1, e3, conc, Instr.indexAt, asIntOf, run_underlying hu, hlt', sizeB_run hs, cAddr_add, Instr.sureAddr]
theorem s_ixStr (hr : Rep σ B w0 M w) (hf : FrR σ M.n fr act.tmps) {t : TypeId} {x i : Operand} {x' i' : AOpd} (ho : o.op = .index t x i) (hk : P.underlying t = some .string ∧ okOpd x x' = true ∧ okOpd i i' = true)
    (he : evalOp fc call meth (.ixStr x' i') fr M K0 = some (v, M')) (hd : Done σ B w0 M next act o.dst v M') : o.wp P act w next Q := by
  simp only [evalOp, ev_eq, bind_some', K0, fI_eq] at he
  obtain ⟨a, ha, b, hb, s, hs, he⟩ := he
  replace he := asNat_some he
  obtain ⟨k, n, rfl, hn, he⟩ := he
  simp only [bind_some'] at he
  obtain ⟨c, hc, he⟩ := he
  obtain ⟨rfl, rfl⟩ := Prod.mk.inj (Option.some.inj he)
  obtain rfl := str?_some hs
  obtain ⟨e1, e2⟩ := opd_ok hf hk.2.1 ha
  obtain ⟨e3, -⟩ := opd_ok hf hk.2.2 hb
  refine wp_pure hr ?_ (by simp [ok]) hd
  have hc' : s[n.toNat]? = some c := by
    rw [Array.getElem?_toList] at hc
    have hlt : n.toNat < s.size := by have := (Array.getElem?_eq_some_iff.1 hc).1; exact this
    rw [getElem?_pos s n.toNat hlt]
    rw [Array.getElem?_eq_getElem hlt] at hc
    exact hc
  simp [execOp, ho, e1, e3, conc, Instr.index, asIntOf, run_underlying hk.1, hn, hc']
theorem s_ixV (hr : Rep σ B w0 M w) (hf : FrR σ M.n fr act.tmps) {t : TypeId} {m : Nat} {x i : Operand} {x' i' : AOpd} (ho : o.op = .index t x i) (hk : (∃ e, P.underlying t = some (.array m e) ∧ sizeB P e = some 1 ∧ isAggB P e = some false) ∧ okOpd x x' = true ∧ okOpd i i' = true)
    (he : evalOp fc call meth (.ixV m x' i') fr M K0 = some (v, M')) (hd : Done σ B w0 M next act o.dst v M') : o.wp P act w next Q := by
  simp only [evalOp, ev_eq, bind_some', K0] at he
  obtain ⟨a, ha, b, hb, l, hl, he⟩ := he
  replace he := asNat_some he
  obtain ⟨k, n, rfl, hn, he⟩ := he
  simp only [bind_some', cond_none] at he
  obtain ⟨hlt, c, hc, he⟩ := he
  obtain ⟨rfl, rfl⟩ := Prod.mk.inj (Option.some.inj he)
  obtain rfl := agg?_some hl
  obtain ⟨⟨e, hu, hs, hg⟩, hk1, hk2⟩ := hk
  obtain ⟨e1, e2⟩ := opd_ok hf hk1 ha
  obtain ⟨e3, -⟩ := opd_ok hf hk2 hb
  simp only [ok] at e2
  refine wp_pure hr ?_ ((okL_iff _ _).1 e2.1 c (List.mem_of_getElem? hc)) hd
  have hlt := Mem.blt_iff.1 hlt
  have hlt' : 0 ≤ n ∧ n < (m : Int) := ⟨hn, by omega⟩
  simp [execOp, ho, e1, e3, conc, Instr.index, asIntOf, run_underlying hu, hlt', sizeB_run hs, part, isAggB_run hg, concL_eq, hc]
theorem s_convI (hr : Rep σ B w0 M w) (hf : FrR σ M.n fr act.tmps) {s d : TypeId} {k : IntKind} {x : Operand} {x' : AOpd} (ho : o.op = .convert s d x) (hk : (∃ ds, P.underlying s = some ds) ∧ P.underlying d = some (.int k) ∧ okOpd x x' = true)
    (he : evalOp fc call meth (.convI k x') fr M K0 = some (v, M')) (hd : Done σ B w0 M next act o.dst v M') : o.wp P act w next Q := by
  simp only [evalOp, ev_eq, bind_some', K0] at he
  obtain ⟨a, ha, he⟩ := he
  obtain ⟨⟨ds, hs⟩, hd', hk⟩ := hk
  obtain ⟨e1, e2⟩ := opd_ok hf hk ha
  cases a <;> simp at he
  obtain ⟨rfl, rfl⟩ := he
  refine wp_pure hr ?_ (by simp [ok]) hd
  simp [execOp, ho, e1, conc, convert, run_underlying hs, run_underlying hd', Conv.intToInt]
theorem s_not (hr : Rep σ B w0 M w) (hf : FrR σ M.n fr act.tmps) {t : TypeId} {x : Operand} {x' : AOpd} (ho : o.op = .unOp .not t x) (hk : okOpd x x' = true)
    (he : evalOp fc call meth (.not x') fr M K0 = some (v, M')) (hd : Done σ B w0 M next act o.dst v M') : o.wp P act w next Q := by
  simp only [evalOp, ev_eq, bind_some', K0, fB_eq] at he
  obtain ⟨a, ha, b, hb, he⟩ := he
  obtain ⟨rfl, rfl⟩ := Prod.mk.inj (Option.some.inj he)
  obtain rfl := bool?_some hb
  obtain ⟨e1, e2⟩ := opd_ok hf hk ha
  refine wp_pure hr ?_ (by simp [ok]) hd
  simp [execOp, ho, e1, conc, Op.unary]
theorem s_neg (hr : Rep σ B w0 M w) (hf : FrR σ M.n fr act.tmps) {t : TypeId} {x : Operand} {x' : AOpd} (ho : o.op = .unOp .neg t x) (hk : okOpd x x' = true)
    (he : evalOp fc call meth (.neg x') fr M K0 = some (v, M')) (hd : Done σ B w0 M next act o.dst v M') : o.wp P act w next Q := by
  simp only [evalOp, ev_eq, bind_some', K0] at he
  obtain ⟨a, ha, he⟩ := he
  obtain ⟨e1, e2⟩ := opd_ok hf hk ha
  cases a <;> simp [binI] at he
  obtain ⟨rfl, rfl⟩ := he
  refine wp_pure hr ?_ (by simp [ok]) hd
  simp [execOp, ho, e1, conc, Op.unary, Op.intArith]
theorem s_com (hr : Rep σ B w0 M w) (hf : FrR σ M.n fr act.tmps) {t : TypeId} {x : Operand} {x' : AOpd} (ho : o.op = .unOp .xor t x) (hk : okOpd x x' = true)
    (he : evalOp fc call meth (.com x') fr M K0 = some (v, M')) (hd : Done σ B w0 M next act o.dst v M') : o.wp P act w next Q := by
  simp only [evalOp, ev_eq, bind_some', K0] at he
  obtain ⟨a, ha, he⟩ := he
  obtain ⟨e1, e2⟩ := opd_ok hf hk ha
  cases a <;> simp [binI] at he
  obtain ⟨rfl, rfl⟩ := he
  refine wp_pure hr ?_ (by simp [ok]) hd
  rename_i k n
  have : (cond k.signed (-1) k.max) = (if k.signed = true then -1 else k.max) := by cases k.signed <;> rfl
  simp [execOp, ho, e1, conc, Op.unary, Op.intBits, this]
theorem s_mkIfc (hr : Rep σ B w0 M w) (hf : FrR σ M.n fr act.tmps) {t : TypeId} {x : Operand} {x' : AOpd} (ho : o.op = .makeInterface t x) (hk : (∃ d, P.underlying t = some d ∧ ∀ ms, d ≠ .interface ms) ∧ okOpd x x' = true)
    (he : evalOp fc call meth (.mkIfc t x') fr M K0 = some (v, M')) (hd : Done σ B w0 M next act o.dst v M') : o.wp P act w next Q := by
  simp only [evalOp, ev_eq, bind_some', K0] at he
  obtain ⟨a, ha, he⟩ := he
  obtain ⟨rfl, rfl⟩ := Prod.mk.inj (Option.some.inj he)
  obtain ⟨⟨d, hu, hni⟩, hk⟩ := hk
  obtain ⟨e1, e2⟩ := opd_ok hf hk ha
  refine wp_pure hr ?_ (by simpa [ok] using e2) hd
  simp only [execOp, ho, e1, Instr.makeInterface, Sem.run_bind, run_underlying hu, Result.andThen_ok]
  cases d <;> first | (exact absurd rfl (hni _)) | rfl
theorem s_mkFn (hr : Rep σ B w0 M w) (hf : FrR σ M.n fr act.tmps) {f : FuncId} {a b : Array Operand} {a' b' : List AOpd} (ho : o.op = .makeFunc (.func f) a b) (hk : okOpds a.toList a' = true ∧ okOpds b.toList b' = true)
    (he : evalOp fc call meth (.mkFn f a' b') fr M K0 = some (v, M')) (hd : Done σ B w0 M next act o.dst v M') : o.wp P act w next Q := by
  simp only [evalOp, evs_eq, bind_some', K0] at he
  obtain ⟨x, hx, y, hy, he⟩ := he
  obtain ⟨rfl, rfl⟩ := Prod.mk.inj (Option.some.inj he)
  obtain ⟨e1, e2⟩ := opds_ok hf hk.1 hx
  obtain ⟨e3, e4⟩ := opds_ok hf hk.2 hy
  refine wp_pure hr ?_ (by simp only [ok]; exact ⟨e2, e4⟩) hd
  have h1 : a.map act.eval = (concL σ x).toArray := by apply Array.ext'; simpa using e1
  have h2 : b.map act.eval = (concL σ y).toArray := by apply Array.ext'; simpa using e3
  simp [execOp, ho, Instr.makeFunc, conc, h1, h2]
theorem s_bin (hr : Rep σ B w0 M w) (hf : FrR σ M.n fr act.tmps) {op : BinOp} {t u : TypeId} {x y : Operand} {x' y' : AOpd} (ho : o.op = .binOp op t x y u) (hk : (op ≠ .shl ∧ op ≠ .shr) ∧ okOpd x x' = true ∧ okOpd y y' = true)
    (he : evalOp fc call meth (.bin op x' y') fr M K0 = some (v, M')) (hd : Done σ B w0 M next act o.dst v M') : o.wp P act w next Q := by
  simp only [evalOp, ev_eq, bind_some', K0] at he
  obtain ⟨a, ha, b, hb, he⟩ := he
  obtain ⟨hop, hk1, hk2⟩ := hk
  obtain ⟨e1, -⟩ := opd_ok hf hk1 ha
  obtain ⟨e3, -⟩ := opd_ok hf hk2 hb
  cases a <;> try (simp at he; done)
  cases b <;> try (simp at he; done)
  rename_i k a k' b
  simp only [cond_none, decide_eq_true_eq] at he
  obtain ⟨rfl, he⟩ := he
  have hg : ∀ W : World, (eqGuard op t x y (.int k a) (.int k b)).run P W = .ok () W := by
    intro W; unfold eqGuard; cases op <;> rfl
  have hrun : (execOp act.eval o).run P w = ((binOp op t (.int k a) (.int k b)).run P w).andThen fun v w => .ok (.value v) w := by
    simp [execOp, ho, e1, e3, conc, hg]
  cases op <;> simp only [binI, fI_eq, fB_eq, none_cond, Option.some.injEq, Prod.mk.injEq, beq_eq_false_iff_ne, ne_eq] at he
  all_goals try (exact absurd rfl hop.1)
  all_goals try (exact absurd rfl hop.2)
  all_goals first
    | (obtain ⟨rfl, rfl⟩ := he; exact wp_pure hr (by rw [hrun]; simp [binOp, Op.intArith, Op.intBits, Op.intCmp, conc]) (by simp [ok]) hd)
    | (obtain ⟨hz, rfl, rfl⟩ := he; exact wp_pure hr (by rw [hrun]; simp [binOp, Op.intDiv, conc, hz]) (by simp [ok]) hd)
    | (cases he)
theorem s_shift (hr : Rep σ B w0 M w) (hf : FrR σ M.n fr act.tmps) {op : BinOp} {t u : TypeId} {x y : Operand} {x' y' : AOpd} (ho : o.op = .binOp op t x y u) (hk : (op = .shl ∨ op = .shr) ∧ okOpd x x' = true ∧ okOpd y y' = true)
    (he : evalOp fc call meth (.shift op x' y') fr M K0 = some (v, M')) (hd : Done σ B w0 M next act o.dst v M') : o.wp P act w next Q := by
  simp only [evalOp, ev_eq, bind_some', K0] at he
  obtain ⟨a, ha, b, hb, he⟩ := he
  obtain ⟨hop, hk1, hk2⟩ := hk
  obtain ⟨e1, -⟩ := opd_ok hf hk1 ha
  obtain ⟨e3, -⟩ := opd_ok hf hk2 hb
  cases a <;> try (simp at he; done)
  cases b <;> try (simp at he; done)
  rename_i k a k' b
  simp only [shiftI, none_cond, decide_eq_false_iff_not] at he
  obtain ⟨hb0, he⟩ := he
  have hmin : ∀ p q : Nat, Nat.min p q = min p q := fun _ _ => rfl
  rcases hop with rfl | rfl
  · simp only [fI_eq, Option.some.injEq, Prod.mk.injEq] at he
    obtain ⟨rfl, rfl⟩ := he
    refine wp_pure hr ?_ (by simp [ok]) hd
    simp [execOp, ho, e1, e3, conc, eqGuard, binOp, Op.shift, hb0, hmin]
  · simp only [fI_eq, Option.some.injEq, Prod.mk.injEq] at he
    obtain ⟨rfl, rfl⟩ := he
    refine wp_pure hr ?_ (by simp [ok]) hd
    simp [execOp, ho, e1, e3, conc, eqGuard, binOp, Op.shift, hb0, hmin]
theorem s_streq (hr : Rep σ B w0 M w) (hf : FrR σ M.n fr act.tmps) {op : BinOp} {neg : Bool} {t u : TypeId} {x y : Operand} {x' y' : AOpd} (ho : o.op = .binOp op t x y u) (hk : ((op = .eql ∧ neg = false) ∨ (op = .neq ∧ neg = true)) ∧ okOpd x x' = true ∧ okOpd y y' = true)
    (he : evalOp fc call meth (.streq neg x' y') fr M K0 = some (v, M')) (hd : Done σ B w0 M next act o.dst v M') : o.wp P act w next Q := by
  simp only [evalOp, ev_eq, bind_some', K0] at he
  obtain ⟨a, ha, b, hb, he⟩ := he
  obtain ⟨hop, hk1, hk2⟩ := hk
  obtain ⟨e1, -⟩ := opd_ok hf hk1 ha
  obtain ⟨e3, -⟩ := opd_ok hf hk2 hb
  cases a <;> try (simp at he; done)
  cases b <;> try (simp at he; done)
  simp only [fB_eq, Option.some.injEq, Prod.mk.injEq] at he
  obtain ⟨rfl, rfl⟩ := he
  refine wp_pure hr ?_ (by simp [ok]) hd
  rcases hop with ⟨rfl, rfl⟩ | ⟨rfl, rfl⟩ <;> simp [execOp, ho, e1, e3, conc, eqGuard, binOp, Op.stringOp]
theorem s_len (hr : Rep σ B w0 M w) (hf : FrR σ M.n fr act.tmps) {c : Call} {x : Operand} {x' : AOpd} (ho : o.op = .call c) (hk : (c.callee = .builtin .len ∧ c.args.toList = [x] ∧ ∃ t, c.argTypes[0]? = some t ∧ ∃ e, P.underlying t = some (.slice e)) ∧ okOpd x x' = true)
    (he : evalOp fc call meth (.len x') fr M K0 = some (v, M')) (hd : Done σ B w0 M next act o.dst v M') : o.wp P act w next Q := by
  simp only [evalOp, ev_eq, bind_some', K0] at he
  obtain ⟨a, ha, s, hs, he⟩ := he
  obtain ⟨rfl, rfl⟩ := Prod.mk.inj (Option.some.inj he)
  obtain rfl := sl?_some hs
  obtain ⟨⟨hc, hargs, t, ht, hu⟩, hk⟩ := hk
  obtain ⟨e1, e2⟩ := opd_ok hf hk ha
  obtain ⟨cc, ca, ct⟩ := c
  simp only at hc hargs ht
  obtain rfl : ca = #[x] := by cases ca; simp_all
  subst hc
  obtain ⟨e, hu⟩ := hu
  refine wp_pure hr ?_ (by simp [ok]) hd
  simp [execOp, ho, e1, resolve, invoke, builtin, Builtin.len_, ht, run_underlying hu, conc, goInt]
theorem s_lenStr (hr : Rep σ B w0 M w) (hf : FrR σ M.n fr act.tmps) {c : Call} {x : Operand} {x' : AOpd} (ho : o.op = .call c) (hk : (c.callee = .builtin .len ∧ c.args.toList = [x] ∧ ∃ t, c.argTypes[0]? = some t ∧ P.underlying t = some .string) ∧ okOpd x x' = true)
    (he : evalOp fc call meth (.lenStr x') fr M K0 = some (v, M')) (hd : Done σ B w0 M next act o.dst v M') : o.wp P act w next Q := by
  simp only [evalOp, ev_eq, bind_some', K0, fI_eq] at he
  obtain ⟨a, ha, s, hs, he⟩ := he
  obtain ⟨rfl, rfl⟩ := Prod.mk.inj (Option.some.inj he)
  obtain rfl := str?_some hs
  obtain ⟨⟨hc, hargs, t, ht, hu⟩, hk⟩ := hk
  obtain ⟨e1, e2⟩ := opd_ok hf hk ha
  obtain ⟨cc, ca, ct⟩ := c
  simp only at hc hargs ht
  obtain rfl : ca = #[x] := by cases ca; simp_all
  subst hc
  refine wp_pure hr ?_ (by simp [ok]) hd
  simp [execOp, ho, e1, resolve, invoke, builtin, Builtin.len_, ht, run_underlying hu, conc, goInt]
theorem s_lenA (hr : Rep σ B w0 M w) (hf : FrR σ M.n fr act.tmps) {c : Call} {x : Operand} {m : Nat} (ho : o.op = .call c) (hk : c.callee = .builtin .len ∧ c.args.toList = [x] ∧ ∃ t, c.argTypes[0]? = some t ∧ ((∃ e, P.underlying t = some (.array m e)) ∨ ∃ u e, P.underlying t = some (.pointer u) ∧ P.underlying u = some (.array m e)))
    (he : evalOp fc call meth (.lenA m) fr M K0 = some (v, M')) (hd : Done σ B w0 M next act o.dst v M') : o.wp P act w next Q := by
  simp only [evalOp, K0] at he
  obtain ⟨rfl, rfl⟩ := Prod.mk.inj (Option.some.inj he)
  obtain ⟨hc, hargs, t, ht, hu⟩ := hk
  obtain ⟨cc, ca, ct⟩ := c
  simp only at hc hargs ht
  obtain rfl : ca = #[x] := by cases ca; simp_all
  subst hc
  refine wp_pure hr ?_ (by simp [ok]) hd
  rcases hu with ⟨e, hu⟩ | ⟨u, e, hu, hu'⟩
  · simp [execOp, ho, resolve, invoke, builtin, Builtin.len_, ht, run_underlying hu, conc, goInt]
  · simp [execOp, ho, resolve, invoke, builtin, Builtin.len_, ht, run_underlying hu, run_underlying hu', conc, goInt]
theorem s_cap (hr : Rep σ B w0 M w) (hf : FrR σ M.n fr act.tmps) {c : Call} {x : Operand} {x' : AOpd} (ho : o.op = .call c) (hk : (c.callee = .builtin .cap ∧ c.args.toList = [x] ∧ ∃ t, c.argTypes[0]? = some t ∧ ∃ e, P.underlying t = some (.slice e)) ∧ okOpd x x' = true)
    (he : evalOp fc call meth (.cap x') fr M K0 = some (v, M')) (hd : Done σ B w0 M next act o.dst v M') : o.wp P act w next Q := by
  simp only [evalOp, ev_eq, bind_some', K0] at he
  obtain ⟨a, ha, s, hs, he⟩ := he
  obtain rfl := sl?_some hs
  cases hcap : s.2.2 with
  | unk k => simp [hcap] at he
  | fin k d => simp [hcap] at he
  | odd => simp [hcap] at he
  | known n =>
    simp only [hcap] at he
    obtain ⟨rfl, rfl⟩ := Prod.mk.inj (Option.some.inj he)
    obtain ⟨⟨hc, hargs, t, ht, hu⟩, hk⟩ := hk
    obtain ⟨e1, e2⟩ := opd_ok hf hk ha
    obtain ⟨cc, ca, ct⟩ := c
    simp only at hc hargs ht
    obtain rfl : ca = #[x] := by cases ca; simp_all
    subst hc
    obtain ⟨e, hu⟩ := hu
    refine wp_pure hr ?_ (by simp [ok]) hd
    simp [execOp, ho, e1, resolve, invoke, builtin, Builtin.cap_, ht, run_underlying hu, conc, goInt, hcap, capOf]
theorem minL_run (act : Act) (k : IntKind) : ∀ (vs : List AVal) (a : Int) {K : AVal → Option (AVal × Mem)} {r}, minI.minL K k a vs = some r →
    ∃ b, K (.int k b) = some r ∧ ((concL σ vs).foldlM Builtin.min2 (.int k a)).run P w = .ok (.int k b) w
  | [], a, K, r, h => ⟨a, h, by simp [concL]⟩
  | x :: vs, a, K, r, h => by
    cases x <;> try (simp [minI.minL] at h; done)
    rename_i k' b
    simp only [minI.minL] at h
    obtain ⟨c, h1, h2⟩ := minL_run act k vs _ h
    refine ⟨c, h1, ?_⟩
    simp only [concL, conc, List.foldlM_cons, Builtin.min2, Sem.run_bind, Sem.run_pure, Result.andThen_ok]
    rw [← h2]
    by_cases hb : b < a <;> simp [hb]
theorem s_min (hr : Rep σ B w0 M w) (hf : FrR σ M.n fr act.tmps) {c : Call} {l : List AOpd} (ho : o.op = .call c) (hk : c.callee = .builtin .min ∧ okOpds c.args.toList l = true)
    (he : evalOp fc call meth (.min l) fr M K0 = some (v, M')) (hd : Done σ B w0 M next act o.dst v M') : o.wp P act w next Q := by
  simp only [evalOp, evs_eq, bind_some', K0] at he
  obtain ⟨vs, hvs, he⟩ := he
  obtain ⟨hc, hk⟩ := hk
  obtain ⟨e1, -⟩ := opds_ok hf hk hvs
  obtain ⟨cc, ca, ct⟩ := c
  simp only at hc e1
  subst hc
  cases vs with
  | nil => simp [minI] at he
  | cons x vs =>
    cases x <;> try (simp [minI] at he; done)
    rename_i k a
    simp only [minI] at he
    obtain ⟨b, h1, h2⟩ := minL_run (P := P) (σ := σ) (w := w) act k vs a he
    obtain ⟨rfl, rfl⟩ := Prod.mk.inj (Option.some.inj h1)
    refine wp_pure hr ?_ (by simp [ok]) hd
    have e1' : (ca.map act.eval).toList = .int k a :: concL σ vs := by rw [Array.toList_map, e1]; simp [concL, conc]
    simp only [execOp, ho, resolve, Sem.run_bind, Sem.run_pure, Result.andThen_ok, invoke, builtin, Builtin.min_, e1', h2]
    rfl
theorem maxL_run (act : Act) (k : IntKind) : ∀ (vs : List AVal) (a : Int) {K : AVal → Option (AVal × Mem)} {r}, maxI.maxL K k a vs = some r →
    ∃ b, K (.int k b) = some r ∧ ((concL σ vs).foldlM Builtin.max2 (.int k a)).run P w = .ok (.int k b) w
  | [], a, K, r, h => ⟨a, h, by simp [concL]⟩
  | x :: vs, a, K, r, h => by
    cases x <;> try (simp [maxI.maxL] at h; done)
    rename_i k' b
    simp only [maxI.maxL] at h
    obtain ⟨c, h1, h2⟩ := maxL_run act k vs _ h
    refine ⟨c, h1, ?_⟩
    simp only [concL, conc, List.foldlM_cons, Builtin.max2, Sem.run_bind, Sem.run_pure, Result.andThen_ok]
    rw [← h2]
    by_cases hb : b > a <;> simp [hb]
theorem s_max (hr : Rep σ B w0 M w) (hf : FrR σ M.n fr act.tmps) {c : Call} {l : List AOpd} (ho : o.op = .call c) (hk : c.callee = .builtin .max ∧ okOpds c.args.toList l = true)
    (he : evalOp fc call meth (.max l) fr M K0 = some (v, M')) (hd : Done σ B w0 M next act o.dst v M') : o.wp P act w next Q := by
  simp only [evalOp, evs_eq, bind_some', K0] at he
  obtain ⟨vs, hvs, he⟩ := he
  obtain ⟨hc, hk⟩ := hk
  obtain ⟨e1, -⟩ := opds_ok hf hk hvs
  obtain ⟨cc, ca, ct⟩ := c
  simp only at hc e1
  subst hc
  cases vs with
  | nil => simp [maxI] at he
  | cons x vs =>
    cases x <;> try (simp [maxI] at he; done)
    rename_i k a
    simp only [maxI] at he
    obtain ⟨b, h1, h2⟩ := maxL_run (P := P) (σ := σ) (w := w) act k vs a he
    obtain ⟨rfl, rfl⟩ := Prod.mk.inj (Option.some.inj h1)
    refine wp_pure hr ?_ (by simp [ok]) hd
    have e1' : (ca.map act.eval).toList = .int k a :: concL σ vs := by rw [Array.toList_map, e1]; simp [concL, conc]
    simp only [execOp, ho, resolve, Sem.run_bind, Sem.run_pure, Result.andThen_ok, invoke, builtin, Builtin.max_, e1', h2]
    rfl
end
end Go.Abs
