import Derived.Test.YtjcakemgghfflaaXMem
set_option linter.unusedVariables false
set_option linter.unusedSimpArgs false
namespace Go.Abs
open Go.RowKit
section
variable {P : Program} {σ σ' : Env} {B : Nat → Prop} {w0 w w' : World} {M M' : Mem} {fr : Fr} {act : Act} {o : Oper} {next : Act → World → Prop} {Q : Exit → Act → World → Prop}
variable {fc : Bool} {call : CallF} {meth : MethF} {v : AVal}
theorem wp_st (hrun : (execOp act.eval o).run P w = .ok (.value (conc σ' v)) w') (hr' : Rep σ' B w0 M' w') (hx : Env.ext M.n σ σ') (hn : M.n ≤ M'.n) (hok : ok M'.n v)
    (hd : Done σ B w0 M next act o.dst v M') : o.wp P act w next Q := by
  unfold Oper.wp
  rw [hrun, Oper.upon_value]
  exact hd σ' w' hr' hx hn hok
theorem wp_skip' (hrun : (execOp act.eval o).run P w = .ok .skip w') (hr' : Rep σ' B w0 M' w') (hx : Env.ext M.n σ σ') (hn : M.n ≤ M'.n)
    (hd : Done σ B w0 M next act o.dst (.tup []) M') : o.wp P act w next Q := by
  unfold Oper.wp
  rw [hrun, Oper.upon_skip]
  exact hd σ' w' hr' hx hn (by simp [ok, okL])
theorem pushed (w : World) (x : Obj) : Pushed w { w with heap := w.heap.push x } x := ⟨rfl, rfl, rfl, rfl⟩
theorem cAddr_new (σ : Env) (n b c : Nat) : cAddr (σ.upd n b 0 c) (n, 0) = ⟨b, 0, none⟩ := by simp [cAddr]
theorem s_box (hr : Rep σ B w0 M w) (hf : FrR σ M.n fr act.tmps) {e : TypeId} {x : Operand} {x' : AOpd} (ho : o.op = .box e x) (hk : okOpd x x' = true)
    (he : evalOp fc call meth (.box x') fr M K0 = some (v, M')) (hd : Done σ B w0 M next act o.dst v M') : o.wp P act w next Q := by
  simp only [evalOp, ev_eq, bind_some', K0, cond_none] at he
  obtain ⟨a, ha, hfl, he⟩ := he
  obtain ⟨rfl, rfl⟩ := Prod.mk.inj (Option.some.inj he)
  obtain ⟨e1, e2⟩ := opd_ok hf hk ha
  refine wp_st ?_ (hr.fixed (e := e) (pushed w _) (ok_cells e2) hfl) (Env.upd_ext _ _ _ _ _) (by simp) (by simp [ok, lt1]) hd
  simp [execOp, ho, e1, Instr.box, newVar, newRow, conc_cells, conc, cAddr_new]
theorem s_alloc (hr : Rep σ B w0 M w) (hf : FrR σ M.n fr act.tmps) {t : TypeId} {zero : List AVal} (ho : o.op = .alloc t) (hk : zeroIs P t zero = true)
    (he : evalOp fc call meth (.alloc zero) fr M K0 = some (v, M')) (hd : Done σ B w0 M next act o.dst v M') : o.wp P act w next Q := by
  simp only [evalOp, K0] at he
  obtain ⟨rfl, rfl⟩ := Prod.mk.inj (Option.some.inj he)
  obtain ⟨z, hz, hc, h1, h2⟩ := zeroIs_run hk σ M.n w
  refine wp_st ?_ (hr.fixed (e := t) (pushed w _) h1 h2) (Env.upd_ext _ _ _ _ _) (by simp) (by simp [ok, lt1]) hd
  simp [execOp, ho, Instr.alloc, hz, newVar, newRow, hc, conc, cAddr_new]
theorem s_build (hr : Rep σ B w0 M w) (hf : FrR σ M.n fr act.tmps) {t : TypeId} {ps : Array (Nat × Operand)} {ps' : List (Nat × Nat × AOpd)} {zero : List AVal} (ho : o.op = .build t ps)
    (hk : zeroIs P t zero = true ∧ ((∃ fs, P.underlying t = some (.struct fs) ∧ allSized P fs = true ∧ okParts (structPlace P fs) ps.toList ps' = true) ∨
      ∃ n e s, P.underlying t = some (.array n e) ∧ sizeB P e = some s ∧ okParts (fun i => some (i * s, s)) ps.toList ps' = true))
    (he : evalOp fc call meth (.build zero ps') fr M K0 = some (v, M')) (hd : Done σ B w0 M next act o.dst v M') : o.wp P act w next Q := by
  simp only [evalOp, K0] at he
  obtain ⟨hz, hk⟩ := hk
  obtain ⟨z, hzr, hc, h1, h2⟩ := zeroIs_run hz σ M.n w
  have hps : (ps.map fun (p : Nat × Operand) => (p.1, act.eval p.2)).toList = ps.toList.map fun (p : Nat × Operand) => (p.1, act.eval p.2) := by simp
  rcases hk with ⟨fs, hu, has, hk⟩ | ⟨n, e, s, hu, hs, hk⟩
  · obtain ⟨cs, hK, hfill, h3, h4⟩ := fill_ok hf hk he h1 h2
    obtain ⟨rfl, rfl⟩ := Prod.mk.inj (Option.some.inj hK)
    refine wp_pure hr ?_ (by simp only [ok]; exact ⟨h3, h4⟩) hd
    have hmap : ∀ (l : List Field), (l.all fun f => (sizeB P f.type).isSome) = true → ∀ w, (l.mapM fun f => (do pure (f.offset, ← sizeOf f.type) : Sem (Nat × Nat))).run P w = .ok (l.map fun f => (f.offset, (sizeB P f.type).getD 0)) w := by
      intro l
      induction l with
      | nil => intro _ w; rfl
      | cons f l ih =>
        intro h w
        simp only [List.all_cons, Bool.and_eq_true] at h
        obtain ⟨n, hn⟩ := Option.isSome_iff_exists.1 h.1
        simp only [List.mapM_cons, Sem.run_bind, sizeB_run hn, Result.andThen_ok, Sem.run_pure, ih h.2, hn, List.map_cons, Option.getD_some]
    have hmapA : ∀ w, (fs.mapM fun f => (do pure (f.offset, ← sizeOf f.type) : Sem (Nat × Nat))).run P w = .ok (fs.toList.map fun f => (f.offset, (sizeB P f.type).getD 0)).toArray w := by
      intro w
      rw [Array.mapM_eq_mapM_toList]
      simp only [Sem.run_map]
      rw [hmap fs.toList has w]
      rfl
    have hplace : (fun i => (fs.toList.map fun f => (f.offset, (sizeB P f.type).getD 0)).toArray[i]?) = structPlace P fs := by
      funext i
      simp only [List.getElem?_toArray, List.getElem?_map, Array.getElem?_toList, structPlace]
      cases hfi : fs[i]? with
      | none => rfl
      | some f =>
        have : (sizeB P f.type).isSome = true := List.all_eq_true.1 has f (by rw [Array.mem_toList_iff]; exact Array.mem_of_getElem? hfi)
        obtain ⟨n, hn⟩ := Option.isSome_iff_exists.1 this
        simp [hn]
    simp only [execOp, ho, Instr.build, Sem.run_bind, hzr, Result.andThen_ok, run_underlying hu, hmapA, hplace, hps, hc, hfill, Sem.run_pure, conc]
  · obtain ⟨cs, hK, hfill, h3, h4⟩ := fill_ok hf hk he h1 h2
    obtain ⟨rfl, rfl⟩ := Prod.mk.inj (Option.some.inj hK)
    refine wp_pure hr ?_ (by simp only [ok]; exact ⟨h3, h4⟩) hd
    simp only [execOp, ho, Instr.build, Sem.run_bind, hzr, Result.andThen_ok, run_underlying hu, sizeB_run hs, hps, hc, hfill, Sem.run_pure, conc]
theorem concL_replZ (σ : Env) (zero : List AVal) : ∀ n, concL σ (replZ zero n) = (List.replicate n (concL σ zero)).flatten
  | 0 => rfl
  | n + 1 => by simp only [replZ, List.replicate_succ, List.flatten_cons, ← concL_replZ σ zero n]; simp [concL_eq]
theorem replZ_mem {zero : List AVal} {x : AVal} : ∀ {n}, x ∈ replZ zero n → x ∈ zero
  | 0, h => by simp [replZ] at h
  | n + 1, h => by simp only [replZ, List.mem_append] at h; exact h.elim id replZ_mem
theorem range_zero (cs : List Value) (n : Nat) (h : cs ≠ []) : (Array.range (n * cs.length)).map (fun i => cs.toArray[i % cs.toArray.size]!) = ((List.replicate n cs).flatten).toArray := by
  apply Array.ext'
  simp only [Array.toList_map, Array.toList_range]
  have hpos : 0 < cs.length := List.length_pos_iff.2 h
  induction n with
  | zero => simp
  | succ n ih =>
    have : (List.replicate (n + 1) cs).flatten = (List.replicate n cs).flatten ++ cs := by
      rw [List.replicate_succ', List.flatten_append]; simp
    rw [this, Nat.add_mul, Nat.one_mul, List.range_add, List.map_append, ih]
    congr 1
    apply List.ext_getElem?
    intro j
    simp only [List.getElem?_map, List.map_map]
    by_cases hj : j < cs.length
    · simp [hj, Nat.add_mod, Nat.mod_eq_of_lt hj]
    · simp [hj]
theorem s_bslice (hr : Rep σ B w0 M w) (hf : FrR σ M.n fr act.tmps) {t : TypeId} {len : Nat} {ps : Array (Nat × Operand)} {ps' : List (Nat × Nat × AOpd)} {cells : List AVal} (ho : o.op = .buildSlice t len ps)
    (hk : ∃ e s zero, P.underlying t = some (.slice e) ∧ sizeB P e = some s ∧ len * s ≤ 2 ^ 24 ∧ okParts (fun i => some (i * s, s)) ps.toList ps' = true ∧ zeroIs P e zero = true ∧ zero.length = s ∧ s ≠ 0 ∧ cells = replZ zero len)
    (he : evalOp fc call meth (.bslice cells ps' len) fr M K0 = some (v, M')) (hd : Done σ B w0 M next act o.dst v M') : o.wp P act w next Q := by
  simp only [evalOp, K0] at he
  obtain ⟨e, s, zero, hu, hs, hle, hk, hz, hzl, hs0, rfl⟩ := hk
  obtain ⟨z, hzr, hc, h1, h2⟩ := zeroIs_run hz σ M.n w
  have hz1 : okL M.n (replZ zero len) := (okL_iff _ _).2 fun y hy => (okL_iff _ _).1 h1 y (replZ_mem hy)
  have hz2 : (replZ zero len).all AVal.flat = true := List.all_eq_true.2 fun y hy => List.all_eq_true.1 h2 y (replZ_mem hy)
  obtain ⟨cs, hK, hfill, h3, h4⟩ := fill_ok hf hk he hz1 hz2
  obtain ⟨rfl, rfl⟩ := Prod.mk.inj (Option.some.inj hK)
  have hps : (ps.map fun (p : Nat × Operand) => (p.1, act.eval p.2)).toList = ps.toList.map fun (p : Nat × Operand) => (p.1, act.eval p.2) := by simp
  refine wp_st ?_ (hr.fixed (e := e) (pushed w _) h3 h4) (Env.upd_ext _ _ _ _ _) (by simp) (by simp [ok, lt1]) hd
  have hnot : ¬ (len * s > 2 ^ 24) := by omega
  have hcz : (concL σ zero).length = s := by simp [hzl]
  have hne : concL σ zero ≠ [] := by intro h; rw [h] at hcz; simp at hcz; omega
  have hrun : (execOp act.eval o).run P w = .ok (.value (.slice (some ⟨w.heap.size, 0, none⟩) len len)) { w with heap := w.heap.push (.cells (concL σ cs).toArray e) } := by
    by_cases h0 : len * s = 0
    · have : len = 0 := by rcases Nat.mul_eq_zero.1 h0 with h | h; exact h; exact absurd h hs0
      subst this
      have hf0 : Instr.fill (fun i => some (i * s, s)) (#[] : Array Value) (ps.map fun (p : Nat × Operand) => (p.1, act.eval p.2)).toList = some (concL σ cs).toArray := by
        rw [hps]; simpa [replZ, concL] using hfill
      simp only [execOp, ho, Instr.buildSlice, Sem.run_bind, run_underlying hu, Result.andThen_ok, sizeB_run hs, hnot, if_false, if_pos h0, Sem.run_pure]
      have hr0 : ∀ f : Nat → Value, (Array.range 0).map f = #[] := fun f => by simp
      simp only [Nat.zero_mul, hr0, hf0, Sem.run_bind, newRow, run_newObj, Result.andThen_ok, Sem.run_pure]
    · have hrow : (Array.range (len * s)).map (fun i => (concL σ zero).toArray[i % (concL σ zero).toArray.size]!) = (concL σ (replZ zero len)).toArray := by
        rw [concL_replZ]
        have := range_zero (concL σ zero) len hne
        rw [hcz] at this
        exact this
      have hf0 : Instr.fill (fun i => some (i * s, s)) (concL σ (replZ zero len)).toArray (ps.map fun (p : Nat × Operand) => (p.1, act.eval p.2)).toList = some (concL σ cs).toArray := by
        rw [hps]; exact hfill
      simp only [execOp, ho, Instr.buildSlice, Sem.run_bind, run_underlying hu, Result.andThen_ok, sizeB_run hs, hnot, if_false, if_neg h0, Sem.run_pure, hzr, hc, hrow, hf0, newRow, run_newObj]
  rw [hrun]
  simp [conc, cAddr_new, capOf]
theorem s_mkSl (hr : Rep σ B w0 M w) (hf : FrR σ M.n fr act.tmps) {t : TypeId} {l c : Operand} {l' c' : AOpd} {zero : List AVal} {bytes : Nat} (ho : o.op = .makeSlice t l c)
    (hk : (∃ e, P.underlying t = some (.slice e) ∧ bytesB P e = some bytes ∧ bytes ≠ 0 ∧ sizeB P e = some zero.length ∧ zero.length ≠ 0 ∧ zeroIs P e zero = true) ∧ okOpd l l' = true ∧ okOpd c c' = true)
    (he : evalOp fc call meth (.mkSl zero bytes l' c') fr M K0 = some (v, M')) (hd : Done σ B w0 M next act o.dst v M') : o.wp P act w next Q := by
  simp only [evalOp, ev_eq, bind_some', K0] at he
  obtain ⟨a, ha, b, hb, he⟩ := he
  replace he := asNat_some he
  obtain ⟨ka, na, rfl, hna, he⟩ := he
  replace he := asNat_some he
  obtain ⟨kb, nb, rfl, hnb, he⟩ := he
  simp only [cond_none, Bool.and_eq_true] at he
  obtain ⟨⟨hlc, hby⟩, he⟩ := he
  obtain ⟨rfl, rfl⟩ := Prod.mk.inj (Option.some.inj he)
  obtain ⟨⟨e, hu, hbs, hbn, hs, hz0, hz⟩, hk1, hk2⟩ := hk
  obtain ⟨e1, -⟩ := opd_ok hf hk1 ha
  obtain ⟨e3, -⟩ := opd_ok hf hk2 hb
  have hlc := Nat.le_of_ble_eq_true hlc
  have hby := Nat.le_of_ble_eq_true hby
  obtain ⟨i, hi, hib⟩ := bytesB_run hbs w
  obtain ⟨z, hzr, hc, h1, h2⟩ := zeroIs_run hz σ M.n w
  have hz1 : okL M.n (replZ zero nb.toNat) := (okL_iff _ _).2 fun y hy => (okL_iff _ _).1 h1 y (replZ_mem hy)
  have hz2 : (replZ zero nb.toNat).all AVal.flat = true := List.all_eq_true.2 fun y hy => List.all_eq_true.1 h2 y (replZ_mem hy)
  refine wp_st ?_ (hr.fixed (e := e) (pushed w _) hz1 hz2) (Env.upd_ext _ _ _ _ _) (by simp) (by simp [ok, lt1]) hd
  have hwr : ∀ n : Int, 0 ≤ n → n ≤ 2 ^ 47 → IntKind.i64.wrap n = n := fun n h1 h2 => by unfold IntKind.wrap IntKind.bits IntKind.signed; simp; omega
  have hcm : nb.toNat ≤ 2 ^ 47 := Nat.le_trans (Nat.le_mul_of_pos_left _ (Nat.pos_of_ne_zero hbn)) hby
  have w1 := hwr na hna (by omega)
  have w2 := hwr nb hnb (by omega)
  have hmul : (bytes : Int) * nb ≤ 2 ^ 48 := by
    have : ((bytes * nb.toNat : Nat) : Int) ≤ 2 ^ 47 := by exact_mod_cast hby
    rw [Int.natCast_mul, Int.toNat_of_nonneg hnb] at this
    omega
  have hnot : (((decide (nb < 0) || decide ((bytes : Int) * nb > 2 ^ 48)) || decide (na < 0) || decide (na > nb)) = true) = False := by
    simp; omega
  have hcz : (concL σ zero).length = zero.length := by simp
  have hne : concL σ zero ≠ [] := by intro h; rw [h] at hcz; simp at hcz; omega
  have hrun : (execOp act.eval o).run P w = .ok (.value (.slice (some ⟨w.heap.size, 0, none⟩) na.toNat nb.toNat)) { w with heap := w.heap.push (.cells (concL σ (replZ zero nb.toNat)).toArray e) } := by
    by_cases h0 : nb.toNat * zero.length = 0
    · have hn0 : nb.toNat = 0 := by rcases Nat.mul_eq_zero.1 h0 with h | h; exact h; exact absurd h hz0
      have hr0 : ∀ f : Nat → Value, (Array.range 0).map f = #[] := fun f => by simp
      simp only [execOp, ho, e1, e3, conc, Instr.makeSlice, asInt, asIntOf, Sem.run_bind, run_underlying hu, Result.andThen_ok, Sem.run_pure, hi, hib, w1, w2, hnot, if_false, run_askRoom, sizeB_run hs, if_pos h0]
      simp only [hn0, Nat.zero_mul, hr0, newRow, Sem.run_bind, run_newObj, Result.andThen_ok, Sem.run_pure]
      simp [replZ, concL]
    · have hrow : (Array.range (nb.toNat * zero.length)).map (fun i => (concL σ zero).toArray[i % (concL σ zero).toArray.size]!) = (concL σ (replZ zero nb.toNat)).toArray := by
        rw [concL_replZ]
        have := range_zero (concL σ zero) nb.toNat hne
        rw [hcz] at this
        exact this
      simp only [execOp, ho, e1, e3, conc, Instr.makeSlice, asInt, asIntOf, Sem.run_bind, run_underlying hu, Result.andThen_ok, Sem.run_pure, hi, hib, w1, w2, hnot, if_false, run_askRoom, sizeB_run hs, if_neg h0, hzr, hc, hrow, newRow, run_newObj]
  rw [hrun]
  simp [conc, cAddr_new, capOf]
theorem s_store (hr : Rep σ B w0 M w) (hf : FrR σ M.n fr act.tmps) {t : TypeId} {x y : Operand} {x' y' : AOpd} {n : Nat} (ho : o.op = .store t x y) (hk : sizeB P t = some n ∧ okOpd x x' = true ∧ okOpd y y' = true)
    (he : evalOp fc call meth (.store n x' y') fr M K0 = some (v, M')) (hd : Done σ B w0 M next act o.dst v M') : o.wp P act w next Q := by
  simp only [evalOp, ev_eq, bind_some', K0] at he
  obtain ⟨a, ha, b, hb, he⟩ := he
  replace he := ptrK_some he
  obtain ⟨q, i, rfl, he⟩ := he
  simp only [cond_none, bind_some', Bool.and_eq_true] at he
  obtain ⟨⟨hlen, hfl⟩, M1, hM1, he⟩ := he
  obtain ⟨rfl, rfl⟩ := Prod.mk.inj (Option.some.inj he)
  obtain ⟨hs, hk1, hk2⟩ := hk
  obtain ⟨e1, e2⟩ := opd_ok hf hk1 ha
  obtain ⟨e3, e4⟩ := opd_ok hf hk2 hb
  have hlen := Nat.eq_of_beq_eq_true hlen
  obtain ⟨w', hrun, hr', hn⟩ := st_run (P := P) hr hM1 (ok_cells e4) hfl
  refine wp_skip' ?_ hr' (Env.ext_refl _ _) (by omega) hd
  simp only [execOp, ho, e1, e3, conc, Option.map_some, Instr.storeAt, Instr.sureAddr, storeVar, Sem.run_bind, Sem.run_pure, Result.andThen_ok, sizeB_run hs]
  have hc := conc_cells σ b
  rw [hc]
  simp only [List.size_toArray, concL_length, hlen, ne_eq, not_true_eq_false, if_false, Sem.run_bind, Result.andThen_ok, hrun, Sem.run_pure]
theorem firstOf_run (hr : Rep σ B w0 M w) {v : AVal} {size n : Nat} {β : Type} {K : List AVal → Option β} {r : β} (h : firstOf size M v n K = some r) :
    ∃ cs, K cs = some r ∧ (∀ w', Rep σ B w0 M w' → (Builtin.firstCells size n (conc σ v)).run P w' = .ok (concL σ cs).toArray w') ∧ okL M.n cs ∧ cs.all AVal.flat = true ∧
      (cs.length = n * size ∨ ∃ s, v = .str s ∧ size = 1 ∧ cs.length = min n s.size) := by
  cases v <;> simp only [firstOf] at h <;> try (cases h; done)
  · rename_i s
    simp only [cond_none] at h
    obtain ⟨h1, h⟩ := h
    refine ⟨_, h, fun w' _ => ?_, ?_, ?_, .inr ⟨s, rfl, Nat.eq_of_beq_eq_true h1, by simp [strCells]⟩⟩
    · simp only [conc, Builtin.firstCells, Sem.run_pure]
      congr 1
      apply Array.ext'
      simp [concL_eq, strCells, conc, ByteArray.data_extract, List.map_take, Function.comp_def]
    · refine (okL_iff _ _).2 fun y hy => ?_
      simp only [strCells] at hy
      obtain ⟨b, _, rfl⟩ := List.mem_map.1 (List.mem_of_mem_take hy)
      simp [ok]
    · refine List.all_eq_true.2 fun y hy => ?_
      simp only [strCells] at hy
      obtain ⟨b, _, rfl⟩ := List.mem_map.1 (List.mem_of_mem_take hy)
      rfl
  · rename_i a len cap
    by_cases hn0 : n = 0
    · subst hn0
      rw [Nat.beq_refl, cond_true] at h
      refine ⟨[], h, fun w' _ => ?_, by simp [okL], by simp, .inl (by simp)⟩
      cases a with
      | none => simp [conc, Builtin.firstCells, concL]
      | some p =>
        obtain ⟨z, hz⟩ := slA_some σ p cap
        simp [conc, hz, Builtin.firstCells, loadCells, loadCellsFrom, concL]
    · have hb0 : Nat.beq n 0 = false := by cases n; exact absurd rfl hn0; rfl
      rw [hb0, cond_false] at h
      simp only [bind_some'] at h
      obtain ⟨p, hp, cs, hcs, h⟩ := h
      have hz := slA_ptr (σ := σ) hp
      obtain ⟨hl, hc⟩ := raw_some hcs
      refine ⟨cs, h, fun w' hr' => ?_, ?_, ?_, .inl hl⟩
      · have := run_loads (P := P) hr' hc
        rw [hl] at this
        simp only [conc, Builtin.firstCells, hz]
        exact this
      · refine (okL_iff _ _).2 fun y hy => ?_
        obtain ⟨j, hj⟩ := List.mem_iff_getElem?.1 hy
        exact (hr.cell (hc j y hj)).2.1
      · refine List.all_eq_true.2 fun y hy => ?_
        obtain ⟨j, hj⟩ := List.mem_iff_getElem?.1 hy
        exact (hr.cell (hc j y hj)).2.2
theorem lenOf_run {v : AVal} {β : Type} {K : Nat → Option β} {r : β} (h : lenOf fc v K = some r) : ∃ n, K n = some r ∧ (∀ w, (Builtin.lenOf (conc σ v)).run P w = .ok n w) ∧ ((∃ a c, v = .sl a n c) ∨ ∃ s, v = .str s ∧ n = s.size) := by
  cases v <;> simp only [lenOf] at h <;> try (cases h; done)
  · rename_i s
    rw [fN_eq] at h
    exact ⟨s.size, h, fun w => by simp [conc, Builtin.lenOf], .inr ⟨s, rfl, rfl⟩⟩
  · rename_i a n c
    exact ⟨n, h, fun w => by simp [conc, Builtin.lenOf], .inl ⟨a, c, rfl⟩⟩
end
end Go.Abs
