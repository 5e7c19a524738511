import Derived.Test.YtjcakemgghfflaaXSnd5
set_option linter.unusedVariables false
set_option linter.unusedSimpArgs false
namespace Go.Abs
open Go.RowKit
mutual
theorem pf_ok : ∀ v : AVal, v.pf = true → ok 0 v
  | .bool _, _ | .int _ _, _ | .str _, _ => by simp [ok]
  | .ptr a, h => by cases a <;> simp [AVal.pf] at h; simp [ok, lt1]
  | .sl a n c, h => by cases a <;> simp [AVal.pf] at h; simp [ok, lt1]
  | .map r, h => by cases r <;> simp [AVal.pf] at h; simp [ok]
  | .fn f a b, h => by
    cases f with
    | none => simp [ok]
    | some f => simp only [AVal.pf, Bool.and_eq_true] at h; simp only [ok]; exact ⟨pfL_ok a h.1, pfL_ok b h.2⟩
  | .ifc t v, h => by
    cases t with
    | none => simp [ok]
    | some t => simp only [AVal.pf] at h; simp only [ok]; exact pf_ok v h
  | .agg l, h => by simp only [AVal.pf, Bool.and_eq_true] at h; simp only [ok]; exact ⟨pfL_ok l h.1, h.2⟩
  | .tup l, h => by simp only [AVal.pf] at h; simp only [ok]; exact pfL_ok l h
theorem pfL_ok : ∀ l : List AVal, pfL l = true → okL 0 l
  | [], _ => by simp [okL]
  | v :: l, h => by simp only [pfL, Bool.and_eq_true] at h; simp only [okL]; exact ⟨pf_ok v h.1, pfL_ok l h.2⟩
end
def CallOk (P : Program) (call : CallF) : Prop := ∀ (σ : Env) (B : Nat → Prop) (w0 : World) (M : Mem) (w : World) (f : FuncId) (vs : List AVal) (r : AVal × Mem), Rep σ B w0 M w → okL M.n vs → call f vs M = some r →
  okCallee P f = true ∧ Calls P f (concL σ vs).toArray w fun e w' => ∃ σ', e = .returned (conc σ' r.1) ∧ ok r.2.n r.1 ∧ Rep σ' B w0 r.2 w' ∧ Env.ext M.n σ σ' ∧ M.n ≤ r.2.n
def MethOk (P : Program) (meth : MethF) : Prop := ∀ t name f, meth t name = some f → ∀ v w, (method (P.types.size + Made.depth) t v name).run P w = .ok (f, v) w
section
variable {P : Program} {σ σ' : Env} {B : Nat → Prop} {w0 w w' : World} {M M' : Mem} {fr : Fr} {act : Act} {o : Oper} {next : Act → World → Prop} {Q : Exit → Act → World → Prop}
variable {fc : Bool} {call : CallF} {meth : MethF} {v : AVal}
theorem s_slc (hr : Rep σ B w0 M w) (hf : FrR σ M.n fr act.tmps) {t : TypeId} {x : Operand} {x' : AOpd} {lo hi mx : Option Operand} {lo' hi' mx' : Option AOpd} {size : Nat} (ho : o.op = .slice t x lo hi mx)
    (hk : (∃ e, P.underlying t = some (.slice e) ∧ sizeB P e = some size ∧ size ≠ 0) ∧ okOpd x x' = true ∧ okO lo lo' = true ∧ okO hi hi' = true ∧ okO mx mx' = true ∧ ¬ (mx.isSome = true ∧ hi.isNone = true))
    (he : evalOp fc call meth (.slc size x' lo' hi' mx') fr M K0 = some (v, M')) (hd : Done σ B w0 M next act o.dst v M') : o.wp P act w next Q := by
  simp only [evalOp, ev_eq, evO_eq, bind_some'] at he
  obtain ⟨a, ha, vl, hvl, vh, hvh, vm, hvm, he⟩ := he
  obtain ⟨⟨e, hu, hs, hs0⟩, hk, hk1, hk2, hk3, hmh⟩ := hk
  obtain ⟨e1, o1⟩ := opd_ok hf hk ha
  obtain ⟨l1, -⟩ := opdO_ok hf hk1 hvl
  obtain ⟨l2, -⟩ := opdO_ok hf hk2 hvh
  obtain ⟨l3, -⟩ := opdO_ok hf hk3 hvm
  cases a <;> try (simp at he; done)
  rename_i p len cap
  have hmh' : ¬ (vm.isSome = true ∧ vh.isNone = true) := by
    rintro ⟨h1, h2⟩
    apply hmh
    have i1 := congrArg Option.isSome l3
    have i2 := congrArg Option.isNone l2
    simp only [Option.isSome_map, Option.isNone_map] at i1 i2
    exact ⟨i1.trans h1, i2.trans h2⟩
  refine slc_pure true hr (c := capOf σ p cap) rfl o1 ?_ hmh' hs0 he hd
  intro l h m hb
  have hsl : ∀ s : Sem Value, (execOp act.eval o) = (do pure (.value (← s))) → True := fun _ _ => trivial
  simp only [execOp, ho, e1, conc, l1, l2, l3, Instr.sliceAt, Instr.slice, Sem.run_bind, run_underlying hu, Result.andThen_ok, hb, sizeB_run hs, Sem.run_pure]
theorem s_slcA (hr : Rep σ B w0 M w) (hf : FrR σ M.n fr act.tmps) {t : TypeId} {x : Operand} {x' : AOpd} {lo hi mx : Option Operand} {lo' hi' mx' : Option AOpd} {n size : Nat} (ho : o.op = .slice t x lo hi mx)
    (hk : (∃ e, P.underlying t = some (.array n e) ∧ sizeB P e = some size ∧ size ≠ 0) ∧ okOpd x x' = true ∧ okO lo lo' = true ∧ okO hi hi' = true ∧ okO mx mx' = true ∧ ¬ (mx.isSome = true ∧ hi.isNone = true))
    (he : evalOp fc call meth (.slcA n size x' lo' hi' mx') fr M K0 = some (v, M')) (hd : Done σ B w0 M next act o.dst v M') : o.wp P act w next Q := by
  simp only [evalOp, ev_eq, evO_eq, bind_some'] at he
  obtain ⟨a, ha, vl, hvl, vh, hvh, vm, hvm, he⟩ := he
  replace he := ptrK_some he
  obtain ⟨q, i, rfl, he⟩ := he
  obtain ⟨⟨e, hu, hs, hs0⟩, hk, hk1, hk2, hk3, hmh⟩ := hk
  obtain ⟨e1, o1⟩ := opd_ok hf hk ha
  obtain ⟨l1, -⟩ := opdO_ok hf hk1 hvl
  obtain ⟨l2, -⟩ := opdO_ok hf hk2 hvh
  obtain ⟨l3, -⟩ := opdO_ok hf hk3 hvm
  have hmh' : ¬ (vm.isSome = true ∧ vh.isNone = true) := by
    rintro ⟨h1, h2⟩
    apply hmh
    have i1 := congrArg Option.isSome l3
    have i2 := congrArg Option.isNone l2
    simp only [Option.isSome_map, Option.isNone_map] at i1 i2
    exact ⟨i1.trans h1, i2.trans h2⟩
  refine slc_pure false hr (a := some (q, i)) (c := n) rfl o1 ?_ hmh' hs0 he hd
  intro l h m hb
  simp only [execOp, ho, e1, conc, l1, l2, l3, Instr.sliceAt, Sem.run_bind, run_underlying hu, Result.andThen_ok, Instr.sureAddr, Option.map_some, hb, sizeB_run hs, Sem.run_pure]
  congr 3
  split <;> rfl
theorem s_slcS (hr : Rep σ B w0 M w) (hf : FrR σ M.n fr act.tmps) {t : TypeId} {x : Operand} {x' : AOpd} {lo hi : Option Operand} {lo' hi' : Option AOpd} (ho : o.op = .slice t x lo hi none)
    (hk : P.underlying t = some .string ∧ okOpd x x' = true ∧ okO lo lo' = true ∧ okO hi hi' = true)
    (he : evalOp fc call meth (.slcS x' lo' hi') fr M K0 = some (v, M')) (hd : Done σ B w0 M next act o.dst v M') : o.wp P act w next Q := by
  simp only [evalOp, ev_eq, evO_eq, bind_some'] at he
  obtain ⟨a, ha, vl, hvl, vh, hvh, s, hs, he⟩ := he
  obtain rfl := str?_some hs
  obtain ⟨hu, hk, hk1, hk2⟩ := hk
  obtain ⟨e1, o1⟩ := opd_ok hf hk ha
  obtain ⟨l1, -⟩ := opdO_ok hf hk1 hvl
  obtain ⟨l2, -⟩ := opdO_ok hf hk2 hvh
  have fin : ∀ h l, ((vh = none ∧ h = s.size) ∨ ∃ k i, vh = some (.int k i) ∧ 0 ≤ i ∧ i.toNat = h) → ((vl = none ∧ l = 0) ∨ ∃ k i, vl = some (.int k i) ∧ 0 ≤ i ∧ i.toNat = l) → h ≤ s.size → l ≤ h →
      K0 (.str (s.extract l h)) M = some (v, M') → o.wp P act w next Q := by
    intro h l hh hl h1 h2 he
    obtain ⟨rfl, rfl⟩ := Prod.mk.inj (Option.some.inj he)
    have hb := bounds_run (P := P) (σ := σ) (isS := false) (len := s.size) (cap := s.size) (mx := none) (.inl ⟨rfl, rfl⟩) hh hl (Nat.le_refl _) (fun _ => h1) h2 (by simp) w
    refine wp_pure hr ?_ (by simp [ok]) hd
    simp only [Option.map_none] at hb
    simp [execOp, ho, e1, conc, l1, l2, Instr.sliceAt, Instr.slice, run_underlying hu, hb]
  replace he := asNatO_some he
  rcases he with ⟨hn, he⟩ | ⟨k, i, hi', h0, he⟩
  · simp only [cond_none] at he
    obtain ⟨h1, he⟩ := he
    replace he := asNatO_some he
    rcases he with ⟨hn2, he⟩ | ⟨k2, i2, hi2, h02, he⟩ <;> simp only [cond_none] at he
    · exact fin _ _ (.inl ⟨hn, rfl⟩) (.inl ⟨hn2, rfl⟩) (Nat.le_of_ble_eq_true h1) (Nat.le_of_ble_eq_true he.1) he.2
    · exact fin _ _ (.inl ⟨hn, rfl⟩) (.inr ⟨k2, i2, hi2, h02, rfl⟩) (Nat.le_of_ble_eq_true h1) (Nat.le_of_ble_eq_true he.1) he.2
  · simp only [cond_none] at he
    obtain ⟨h1, he⟩ := he
    replace he := asNatO_some he
    rcases he with ⟨hn2, he⟩ | ⟨k2, i2, hi2, h02, he⟩ <;> simp only [cond_none] at he
    · exact fin _ _ (.inr ⟨k, i, hi', h0, rfl⟩) (.inl ⟨hn2, rfl⟩) (Nat.le_of_ble_eq_true h1) (Nat.le_of_ble_eq_true he.1) he.2
    · exact fin _ _ (.inr ⟨k, i, hi', h0, rfl⟩) (.inr ⟨k2, i2, hi2, h02, rfl⟩) (Nat.le_of_ble_eq_true h1) (Nat.le_of_ble_eq_true he.1) he.2
theorem callFunc_run {f : FuncId} (h : okCallee P f = true) (args : Array Value) (w : World) : (callFunc f args).run P w = .ok (.enter f args) w := by
  unfold okCallee at h
  cases hf : P.funcs[f]? with
  | none => simp [hf] at h
  | some fn =>
    simp only [hf, Bool.and_eq_true] at h
    obtain ⟨h1, h2⟩ := h
    have hn : (fn.name == "runtime.NumGoroutine") = false := by simpa using h2
    have hb : fn.body.isNone = false := by cases hbb : fn.body <;> simp_all
    unfold callFunc
    simp only [Sem.run_bind, run_program, Result.andThen_ok, hf, hn, hb, Bool.false_eq_true, if_false, Sem.run_pure]
theorem wp_call (hcall : CallOk P call) (hr : Rep σ B w0 M w) {f : FuncId} {vs : List AVal} {r : AVal × Mem} (hvs : okL M.n vs) (hc : call f vs M = some r)
    (hrun : okCallee P f = true → (execOp act.eval o).run P w = .ok (.enter f (concL σ vs).toArray) w) (he : some (r.1, r.2) = some (v, M')) (hd : Done σ B w0 M next act o.dst v M') : o.wp P act w next Q := by
  obtain ⟨rfl, rfl⟩ := Prod.mk.inj (Option.some.inj he)
  obtain ⟨hk, hcl⟩ := hcall σ B w0 M w f vs r hr hvs hc
  unfold Oper.wp
  rw [hrun hk, Oper.upon_enter]
  refine hcl.mono ?_
  rintro e w' ⟨σ', rfl, h1, h2, h3, h4⟩
  exact hd σ' w' h2 h3 h4 h1
theorem live_blk (hr : Rep σ B w0 M w) {o : Nat} {x : AObj} (hx : M.get o = some x) (hd : x.kind ≠ .dead) : σ.blk o < w.heap.size := by
  have hobj := hr.obj o x hx
  unfold RepObj at hobj
  cases hk : x.kind with
  | dead => exact absurd hk hd
  | map t => rw [hk] at hobj; obtain ⟨_, es, cl, hh, _⟩ := hobj; exact (Array.getElem?_eq_some_iff.1 hh).1
  | ro s => rw [hk] at hobj; exact hr.size _ hobj.1
  | fixed =>
    rw [hk] at hobj
    obtain ⟨_, _, _, _, h⟩ := hobj
    exact (Array.getElem?_eq_some_iff.1 h).1
  | grow s =>
    rw [hk] at hobj
    obtain ⟨_, _, _, _, h, _⟩ := hobj
    exact (Array.getElem?_eq_some_iff.1 h).1
theorem Rep.kept (hr : Rep σ B w0 M w) (h : Keep (· < w.heap.size) w w') : Rep σ B w0 M w' :=
  ⟨hr.oks, fun o x hx => (hr.obj o x hx).frame (Env.ext_refl M.n σ) (Mem.get_lt hx) (hr.oks o x hx).1 (fun hd => h.block _ (live_blk hr hx hd)), hr.inj, hr.below.trans (h.mono hr.size), fun k hk => Nat.lt_of_lt_of_le (hr.size k hk) h.size, hr.injM⟩
theorem Rep.start (w : World) : Rep ⟨fun _ => 0, fun _ => 0, fun _ => 0⟩ (· < w.heap.size) w Mem.empty w :=
  ⟨fun o x h => by have := Mem.get_lt h; simp [Mem.empty] at this, fun o x h => by have := Mem.get_lt h; simp [Mem.empty] at this, fun o _ x _ _ _ h => by have := Mem.get_lt h; simp [Mem.empty] at this, Keep.refl _ _, fun _ h => h, fun o _ x _ _ _ h => by have := Mem.get_lt h; simp [Mem.empty] at this⟩
theorem oneM_get (o : Nat) (x : AObj) : (oneM o x).get o = some x := by
  unfold oneM
  rw [Mem.get_alloc, if_pos rfl]
theorem oneM_ne {o j : Nat} {x : AObj} (h : j ≠ o) : (oneM o x).get j = none := by
  unfold oneM
  rw [Mem.get_alloc, if_neg h]
  cases hh : Mem.get ⟨o, .e⟩ j with
  | none => rfl
  | some y =>
    rw [Mem.get_eq] at hh
    split at hh
    · simp [Tr.get] at hh
    · cases hh
theorem readK_some {β : Type} {call : CallF} {f : FuncId} {M : Mem} {v : AVal} {K : AVal → Option β} {u : β} (h : readK call f M v K = some u) : ∃ p l c x, v = .sl (some p) l c ∧ M.get p.1 = some x ∧ pfL x.cells = true ∧ x.cells.all AVal.flat = true ∧ ∃ r, call f [v] (oneM p.1 x) = some r ∧ sameO (r.2.get p.1) (some x) = true ∧ K r.1 = some u := by
  unfold readK at h
  split at h
  · rename_i p l c
    simp only [bind_some', cond_none, Bool.and_eq_true] at h
    obtain ⟨x, h1, ⟨h2, h3⟩, r, h4, h5, h6⟩ := h
    exact ⟨p, l, c, x, rfl, h1, h2, h3, r, h4, h5, h6⟩
  · cases h
theorem Rep.one (hr : Rep σ B w0 M w) {o : Nat} {x : AObj} (hx : M.get o = some x) (hpf : pfL x.cells = true) (hfl : x.cells.all AVal.flat = true) :
    ∃ B1 : Nat → Prop, Rep σ B1 w (oneM o x) w ∧ ∀ {σ' : Env} {M' : Mem} {w' : World}, Rep σ' B1 w M' w' → M'.get o = some x → Env.ext (oneM o x).n σ σ' → Rep σ B w0 M w' := by
  have hobj := hr.obj o x hx
  have hlt := Mem.get_lt hx
  have hn : (oneM o x).n = o + 1 := rfl
  refine ⟨fun k => k < w.heap.size ∧ (B k ∨ x.kind = .dead ∨ σ.blk o ≠ k), ?_, ?_⟩
  · refine ⟨fun o' y hy => ?_, fun o' y hy => ?_, fun o1 o2 y1 y2 l1 l2 h1 h2 _ _ _ => ?_, Keep.refl _ _, fun k hk => hk.1, fun o1 o2 y1 y2 t1 t2 h1 h2 _ _ _ => ?_⟩
    · by_cases e : o' = o
      · subst e
        rw [oneM_get] at hy; cases hy
        exact ⟨okL_mono (Nat.zero_le _) _ (pfL_ok _ hpf), hfl⟩
      · rw [oneM_ne e] at hy; cases hy
    · by_cases e : o' = o
      · subst e
        rw [oneM_get] at hy; cases hy
        unfold RepObj at hobj ⊢
        cases hk : x.kind with
        | dead => trivial
        | map t =>
          rw [hk] at hobj
          obtain ⟨h1, h2⟩ := hobj
          refine ⟨fun hb => ?_, h2⟩
          rcases hb.2 with hb | hb | hb
          · exact h1 hb
          · cases hb
          · exact hb rfl
        | ro s =>
          rw [hk] at hobj
          exact ⟨⟨hr.size _ hobj.1, .inl hobj.1⟩, hobj.2⟩
        | fixed =>
          rw [hk] at hobj
          obtain ⟨h1, h2⟩ := hobj
          refine ⟨fun hb => ?_, h2⟩
          rcases hb.2 with hb | hb | hb
          · exact h1 hb
          · cases hb
          · exact hb rfl
        | grow s =>
          rw [hk] at hobj
          obtain ⟨h1, h2⟩ := hobj
          refine ⟨fun hb => ?_, h2⟩
          rcases hb.2 with hb | hb | hb
          · exact h1 hb
          · cases hb
          · exact hb rfl
      · rw [oneM_ne e] at hy; cases hy
    · by_cases e1 : o1 = o
      · by_cases e2 : o2 = o
        · omega
        · rw [oneM_ne e2] at h2; cases h2
      · rw [oneM_ne e1] at h1; cases h1
    · by_cases e1 : o1 = o
      · by_cases e2 : o2 = o
        · omega
        · rw [oneM_ne e2] at h2; cases h2
      · rw [oneM_ne e1] at h1; cases h1
  · intro σ' M' w' hr' hx' hext
    have hob := hr'.obj o x hx'
    have hbo : σ'.blk o = σ.blk o ∧ σ'.off o = σ.off o ∧ σ'.cap o = σ.cap o := hext o (by rw [hn]; omega)
    have hkeep : ∀ k, k < w.heap.size → (B k ∨ x.kind = .dead ∨ σ.blk o ≠ k) → w'.heap[k]? = w.heap[k]? := fun k h1 h2 => hr'.below.block k ⟨h1, h2⟩
    refine ⟨hr.oks, fun o' y hy => ?_, hr.inj, ⟨hr'.below.os.trans hr.below.os, hr'.below.tape.trans hr.below.tape, hr'.below.output.trans hr.below.output, Nat.le_trans hr.below.size hr'.below.size, fun k hk => ?_⟩, fun k hk => Nat.lt_of_lt_of_le (hr.size k hk) hr'.below.size, hr.injM⟩
    · by_cases e : o' = o
      · subst e
        rw [hx] at hy; cases hy
        have hcon : concL σ' x.cells = concL σ x.cells := concL_ext (n := 0) (fun _ h => by omega) _ (pfL_ok _ hpf)
        have hcv : ∀ v ∈ x.cells, conc σ' v = conc σ v := fun v hv => conc_ext (n := 0) (fun _ h => by omega) _ ((okL_iff _ _).1 (pfL_ok _ hpf) v hv)
        unfold RepObj at hob hobj ⊢
        cases hk : x.kind with
        | dead => trivial
        | map t =>
          rw [hk] at hob hobj
          rw [hbo.1, hcon] at hob
          exact ⟨hobj.1, hob.2⟩
        | ro s =>
          rw [hk] at hob hobj
          rw [hbo.1, hbo.2.1, hbo.2.2] at hob
          exact ⟨hobj.1, fun i v hv => by rw [hob.2.1 i v hv, hcv v (List.mem_of_getElem? hv)], hobj.2.2⟩
        | fixed =>
          rw [hk] at hob hobj
          rw [hbo.1, hbo.2.1, hbo.2.2, hcon] at hob
          exact ⟨hobj.1, hob.2⟩
        | grow s =>
          rw [hk] at hob hobj
          rw [hbo.1, hbo.2.1, hbo.2.2] at hob
          obtain ⟨_, arr, e, fr, q1, q2, q3, q4, q5⟩ := hob
          exact ⟨hobj.1, arr, e, fr, q1, q2, q3, q4, fun i v hv => by rw [q5 i v hv, hcv v (List.mem_of_getElem? hv)]⟩
      · refine (hr.obj o' y hy).frame (Env.ext_refl M.n σ) (Mem.get_lt hy) (hr.oks o' y hy).1 (fun hd => ?_)
        have hoy := hr.obj o' y hy
        refine hkeep _ (live_blk hr hy hd) ?_
        by_cases hxd : x.kind = .dead
        · exact .inr (.inl hxd)
        ·
          by_cases hb : σ.blk o = σ.blk o'
          · left
            unfold RepObj at hobj hoy
            cases hkx : x.kind with
            | dead => exact absurd hkx hxd
            | ro s => rw [hkx] at hobj; rw [← hb]; exact hobj.1
            | map t =>
              rw [hkx] at hobj
              cases hky : y.kind with
              | dead => exact absurd hky hd
              | ro s => rw [hky] at hoy; exact hoy.1
              | map t' => exact absurd (hr.injM _ _ _ _ _ _ hx hy hkx hky hb).symm e
              | fixed =>
                rw [hky] at hoy
                obtain ⟨_, es, cl, h1, _⟩ := hobj
                obtain ⟨_, _, _, e', h2⟩ := hoy
                rw [← hb, h1] at h2; cases h2
              | grow s =>
                rw [hky] at hoy
                obtain ⟨_, es, cl, h1, _⟩ := hobj
                obtain ⟨_, arr, e', fr', h2, _⟩ := hoy
                rw [← hb, h1] at h2; cases h2
            | fixed =>
              rw [hkx] at hobj
              have mx : x.mine = some x.cells := by unfold AObj.mine; rw [hkx]
              cases hky : y.kind with
              | dead => exact absurd hky hd
              | ro s => rw [hky] at hoy; exact hoy.1
              | map t' =>
                rw [hky] at hoy
                obtain ⟨_, es, cl, h1, _⟩ := hoy
                obtain ⟨_, _, _, e', h2⟩ := hobj
                rw [hb, h1] at h2; cases h2
              | fixed =>
                have my : y.mine = some y.cells := by unfold AObj.mine; rw [hky]
                exact absurd (hr.inj _ _ _ _ _ _ hx hy mx my hb).symm e
              | grow s =>
                have my : y.mine = some y.cells := by unfold AObj.mine; rw [hky]
                exact absurd (hr.inj _ _ _ _ _ _ hx hy mx my hb).symm e
            | grow s =>
              rw [hkx] at hobj
              have mx : x.mine = some x.cells := by unfold AObj.mine; rw [hkx]
              cases hky : y.kind with
              | dead => exact absurd hky hd
              | ro s => rw [hky] at hoy; exact hoy.1
              | map t' =>
                rw [hky] at hoy
                obtain ⟨_, es, cl, h1, _⟩ := hoy
                obtain ⟨_, arr, e', fr', h2, _⟩ := hobj
                rw [hb, h1] at h2; cases h2
              | fixed =>
                have my : y.mine = some y.cells := by unfold AObj.mine; rw [hky]
                exact absurd (hr.inj _ _ _ _ _ _ hx hy mx my hb).symm e
              | grow s =>
                have my : y.mine = some y.cells := by unfold AObj.mine; rw [hky]
                exact absurd (hr.inj _ _ _ _ _ _ hx hy mx my hb).symm e
          · exact .inr (.inr hb)
    · rw [hkeep k (hr.size k hk) (.inl hk)]
      exact hr.below.block k hk
theorem s_callP (hcall : CallOk P call) (hr : Rep σ B w0 M w) (hf : FrR σ M.n fr act.tmps) {c : Call} {f : FuncId} {args : List AOpd} {t : RTys} (ho : o.op = .call c) (hk : c.callee = .value (.func f) ∧ okOpds c.args.toList args = true)
    (he : evalOp fc call meth (.callP f args t) fr M K0 = some (v, M')) (hd : Done σ B w0 M next act o.dst v M') : o.wp P act w next Q := by
  simp only [evalOp, evs_eq, bind_some', cond_none] at he
  obtain ⟨vs, hvs, hpf, r, hr', he⟩ := he
  replace he := castRs_some he
  simp only [cond_none] at he
  obtain ⟨hpv, he⟩ := he
  obtain ⟨rfl, rfl⟩ := Prod.mk.inj (Option.some.inj he)
  obtain ⟨hc, hk⟩ := hk
  obtain ⟨e1, e2⟩ := opds_ok hf hk hvs
  obtain ⟨cc, ca, ct⟩ := c
  simp only at hc e1
  subst hc
  obtain ⟨hkc, hcl⟩ := hcall _ _ _ _ _ _ _ _ (Rep.start w) (pfL_ok vs hpf) hr'
  have hz : ∀ σ σ' : Env, Env.ext 0 σ σ' := fun _ _ o ho => by omega
  rw [concL_ext (hz σ _) vs (pfL_ok vs hpf)] at hcl
  have hm : ca.map act.eval = (concL σ vs).toArray := by apply Array.ext'; simpa using e1
  unfold Oper.wp
  have hrun : (execOp act.eval o).run P w = .ok (.enter f (concL σ vs).toArray) w := by
    simp only [execOp, ho, resolve, hm, Act.eval, Deferred.ofValue, Sem.run_bind, Sem.run_pure, Result.andThen_ok, invoke]
    simp only [Array.append_empty, Array.empty_append, callFunc_run hkc]
  rw [hrun, Oper.upon_enter]
  refine hcl.mono ?_
  rintro e w' ⟨σ', rfl, h1, h2, h3, h4⟩
  rw [conc_ext (hz σ σ') _ (pf_ok _ hpv)]
  exact hd σ w' (hr.kept h2.below) (Env.ext_refl _ _) (Nat.le_refl _) (ok_mono (Nat.zero_le _) _ (pf_ok _ hpv))
theorem s_call (hcall : CallOk P call) (hr : Rep σ B w0 M w) (hf : FrR σ M.n fr act.tmps) {c : Call} {f : FuncId} {args : List AOpd} {t : RTys} (ho : o.op = .call c) (hk : c.callee = .value (.func f) ∧ okOpds c.args.toList args = true)
    (he : evalOp fc call meth (.call f args t) fr M K0 = some (v, M')) (hd : Done σ B w0 M next act o.dst v M') : o.wp P act w next Q := by
  simp only [evalOp, evs_eq, bind_some'] at he
  obtain ⟨vs, hvs, r, hr', he⟩ := he
  replace he := castRs_some he
  obtain ⟨hc, hk⟩ := hk
  obtain ⟨e1, e2⟩ := opds_ok hf hk hvs
  obtain ⟨cc, ca, ct⟩ := c
  simp only at hc e1
  subst hc
  refine wp_call hcall hr e2 hr' (fun hkc => ?_) he hd
  have hm : ca.map act.eval = (concL σ vs).toArray := by apply Array.ext'; simpa using e1
  simp only [execOp, ho, resolve, hm, Act.eval, Deferred.ofValue, Sem.run_bind, Sem.run_pure, Result.andThen_ok, invoke]
  simp only [Array.append_empty, Array.empty_append, callFunc_run hkc]
theorem s_callR (hcall : CallOk P call) (hr : Rep σ B w0 M w) (hf : FrR σ M.n fr act.tmps) {c : Call} {f : FuncId} {x : AOpd} {t : RTys} (ho : o.op = .call c) (hk : c.callee = .value (.func f) ∧ okOpds c.args.toList [x] = true)
    (he : evalOp fc call meth (.callR f x t) fr M K0 = some (v, M')) (hd : Done σ B w0 M next act o.dst v M') : o.wp P act w next Q := by
  simp only [evalOp, ev_eq, bind_some'] at he
  obtain ⟨u, hu, he⟩ := he
  obtain ⟨p, l, cp, y, hv, hy, hpf, hfl, r, hr', hs, he⟩ := readK_some he
  replace he := castRs_some he
  simp only [cond_none] at he
  obtain ⟨hpv, he⟩ := he
  obtain ⟨rfl, rfl⟩ := Prod.mk.inj (Option.some.inj he)
  obtain ⟨hc, hk⟩ := hk
  have hvs : evVs fr [x] = some [u] := by simp [evVs, hu]
  obtain ⟨e1, e2⟩ := opds_ok hf hk hvs
  obtain ⟨cc, ca, ct⟩ := c
  simp only at hc e1
  subst hc
  have hlt := Mem.get_lt hy
  obtain ⟨w1, hw1, hback⟩ := hr.one hy hpf hfl
  obtain ⟨hkc, hcl⟩ := hcall _ _ _ _ _ _ _ _ hw1 (by subst hv; simp [okL, ok, lt1, oneM]) hr'
  have hm : ca.map act.eval = (concL σ [u]).toArray := by apply Array.ext'; simpa using e1
  unfold Oper.wp
  have hrun : (execOp act.eval o).run P w = .ok (.enter f (concL σ [u]).toArray) w := by
    simp only [execOp, ho, resolve, hm, Act.eval, Deferred.ofValue, Sem.run_bind, Sem.run_pure, Result.andThen_ok, invoke]
    simp only [Array.append_empty, Array.empty_append, callFunc_run hkc]
  rw [hrun, Oper.upon_enter]
  refine hcl.mono ?_
  rintro e w' ⟨σ', rfl, h1, h2, h3, h4⟩
  have hz : ∀ σ σ' : Env, Env.ext 0 σ σ' := fun _ _ o ho => by omega
  rw [conc_ext (hz σ σ') _ (pf_ok _ hpv)]
  exact hd σ w' (hback h2 (sameO_eq hs) h3) (Env.ext_refl _ _) (Nat.le_refl _) (ok_mono (Nat.zero_le _) _ (pf_ok _ hpv))
theorem s_callV (hcall : CallOk P call) (hr : Rep σ B w0 M w) (hf : FrR σ M.n fr act.tmps) {c : Call} {x : Operand} {x' : AOpd} {args : List AOpd} {t : RTys} (ho : o.op = .call c) (hk : c.callee = .value x ∧ okOpd x x' = true ∧ okOpds c.args.toList args = true)
    (he : evalOp fc call meth (.callV x' args t) fr M K0 = some (v, M')) (hd : Done σ B w0 M next act o.dst v M') : o.wp P act w next Q := by
  simp only [evalOp, ev_eq, evs_eq, bind_some'] at he
  obtain ⟨a, ha, vs, hvs, p, hp, f, hpf, r, hr', he⟩ := he
  replace he := castRs_some he
  obtain rfl := fn?_some hp
  obtain ⟨hc, hk1, hk2⟩ := hk
  obtain ⟨e0, o0⟩ := opd_ok hf hk1 ha
  obtain ⟨e1, e2⟩ := opds_ok hf hk2 hvs
  obtain ⟨cc, ca, ct⟩ := c
  simp only at hc e1
  subst hc
  simp only [ok, hpf] at o0
  have hvs2 : okL M.n (p.2.1 ++ vs ++ p.2.2) := (okL_iff _ _).2 fun z hz => by
    rcases List.mem_append.1 hz with hz | hz
    · rcases List.mem_append.1 hz with hz | hz
      · exact (okL_iff _ _).1 o0.1 z hz
      · exact (okL_iff _ _).1 e2 z hz
    · exact (okL_iff _ _).1 o0.2 z hz
  refine wp_call hcall hr hvs2 hr' (fun hkc => ?_) he hd
  have hm : ca.map act.eval = (concL σ vs).toArray := by apply Array.ext'; simpa using e1
  have hcc : (concL σ (p.2.1 ++ vs ++ p.2.2)).toArray = (concL σ p.2.1).toArray ++ (concL σ vs).toArray ++ (concL σ p.2.2).toArray := by simp [concL_eq]
  rw [hcc]
  simp only [execOp, ho, resolve, hm, e0, conc, hpf, Deferred.ofValue, Sem.run_bind, Sem.run_pure, Result.andThen_ok, invoke, callFunc_run hkc]
theorem s_callM (hcall : CallOk P call) (hmeth : MethOk P meth) (hr : Rep σ B w0 M w) (hf : FrR σ M.n fr act.tmps) {c : Call} {x : Operand} {x' : AOpd} {name : String} {args : List AOpd} {t : RTys} (ho : o.op = .call c)
    (hk : c.callee = .invoke x name ∧ okOpd x x' = true ∧ okOpds c.args.toList args = true)
    (he : evalOp fc call meth (.callM x' name args t) fr M K0 = some (v, M')) (hd : Done σ B w0 M next act o.dst v M') : o.wp P act w next Q := by
  simp only [evalOp, ev_eq, evs_eq, bind_some'] at he
  obtain ⟨a, ha, vs, hvs, p, hp, ty, hty, f, hmf, r, hr', he⟩ := he
  replace he := castRs_some he
  obtain rfl := ifc?_some hp
  obtain ⟨hc, hk1, hk2⟩ := hk
  obtain ⟨e0, o0⟩ := opd_ok hf hk1 ha
  obtain ⟨e1, e2⟩ := opds_ok hf hk2 hvs
  obtain ⟨cc, ca, ct⟩ := c
  simp only at hc e1
  subst hc
  simp only [ok, hty] at o0
  refine wp_call hcall hr (vs := p.2 :: vs) ⟨o0, e2⟩ hr' (fun hkc => ?_) he hd
  have hm : ca.map act.eval = (concL σ vs).toArray := by apply Array.ext'; simpa using e1
  have hx : (#[Value.iface ty (conc σ p.2)] ++ (concL σ vs).toArray).extract 1 (#[Value.iface ty (conc σ p.2)] ++ (concL σ vs).toArray).size = (concL σ vs).toArray := by
    apply Array.ext'
    simp
    exact List.take_of_length_le (by simp)
  have h0 : (#[Value.iface ty (conc σ p.2)] ++ (concL σ vs).toArray)[0]? = some (Value.iface ty (conc σ p.2)) := by simp
  have hcc : (concL σ (p.2 :: vs)).toArray = #[conc σ p.2] ++ (concL σ vs).toArray := by simp [concL]
  rw [hcc]
  simp only [execOp, ho, resolve, hm, e0, conc, hty, Sem.run_bind, Sem.run_pure, Result.andThen_ok, invoke, h0, hx, callMethod, run_program, hmeth ty name f hmf, callFunc_run hkc]
theorem beq_t {a b : Nat} (h : Nat.beq a b = true) : a = b := Nat.eq_of_beq_eq_true h
theorem isSz_t {o : Option Nat} {n : Nat} (h : isSz o n = true) : o = some n := by
  unfold isSz at h
  split at h
  · rw [beq_t h]
  · cases h
theorem nb_t {n : Nat} (h : (!Nat.beq n 0) = true) : n ≠ 0 := by intro e; subst e; simp at h
theorem okBuiltin_sound (hcall : CallOk P call) (hr : Rep σ B w0 M w) (hf : FrR σ M.n fr act.tmps) {c : Call} {b : Builtin} {a : AOp} (ho : o.op = .call c) (hc : c.callee = .builtin b) (hk : okBuiltin P b c.argTypes c.args.toList a = true)
    (he : evalOp fc call meth a fr M K0 = some (v, M')) (hd : Done σ B w0 M next act o.dst v M') : o.wp P act w next Q := by
  unfold okBuiltin at hk
  split at hk
  · rename_i x x' hargs
    simp only [Bool.and_eq_true] at hk
    obtain ⟨h1, h2⟩ := hk
    split at h1
    · rename_i e hu
      simp only [bind_some'] at hu
      obtain ⟨t, ht, hu⟩ := hu
      exact s_len hr hf ho ⟨⟨hc, hargs, t, ht, e, hu⟩, h2⟩ he hd
    · cases h1
  · rename_i x x' hargs
    simp only [Bool.and_eq_true] at hk
    obtain ⟨h1, h2⟩ := hk
    split at h1
    · rename_i hu
      simp only [bind_some'] at hu
      obtain ⟨t, ht, hu⟩ := hu
      exact s_lenStr hr hf ho ⟨⟨hc, hargs, t, ht, hu⟩, h2⟩ he hd
    · cases h1
  · rename_i x m hargs
    split at hk
    · rename_i m' e hu
      simp only [bind_some'] at hu
      obtain ⟨t, ht, hu⟩ := hu
      have := beq_t hk
      subst this
      exact s_lenA hr hf ho ⟨hc, hargs, t, ht, .inl ⟨e, hu⟩⟩ he hd
    · rename_i u hu
      simp only [bind_some'] at hu
      obtain ⟨t, ht, hu⟩ := hu
      split at hk
      · rename_i m' e hu'
        have := beq_t hk
        subst this
        exact s_lenA hr hf ho ⟨hc, hargs, t, ht, .inr ⟨u, e, hu, hu'⟩⟩ he hd
      · cases hk
    · cases hk
  · rename_i x x' hargs
    simp only [Bool.and_eq_true] at hk
    obtain ⟨h1, h2⟩ := hk
    split at h1
    · rename_i e hu
      simp only [bind_some'] at hu
      obtain ⟨t, ht, hu⟩ := hu
      exact s_cap hr hf ho ⟨⟨hc, hargs, t, ht, e, hu⟩, h2⟩ he hd
    · cases h1
  · rename_i x y size bytes x' y' hargs
    simp only [Bool.and_eq_true] at hk
    obtain ⟨⟨⟨h1, h2⟩, h3⟩, h4⟩ := hk
    split at h1
    · rename_i e hu
      simp only [bind_some'] at hu
      obtain ⟨t, ht, hu⟩ := hu
      simp only [Bool.and_eq_true] at h1
      obtain ⟨⟨⟨⟨a1, a2⟩, a3⟩, a4⟩, a5⟩ := h1
      split at h2
      · rename_i t1 ht1
        have h2' : ∃ d, P.underlying t1 = some d ∧ ((∃ e', d = .slice e') ∨ d = .string) := by
          split at h2
          · rename_i e' hu1; exact ⟨_, hu1, .inl ⟨e', rfl⟩⟩
          · rename_i hu1; exact ⟨_, hu1, .inr rfl⟩
          · cases h2
        obtain ⟨d, hd1, hd2⟩ := h2'
        split at a5
        · rename_i z hz
          simp only [bind_some'] at hz
          obtain ⟨i, hi, hz⟩ := hz
          exact s_app hr hf ho ⟨⟨hc, hargs, ⟨⟨t, ht, hu⟩, ⟨t1, d, ht1, hd1, hd2⟩, isSz_t a1, isSz_t a2, nb_t a3, nb_t a4, ⟨i, z, hi, hz, beq_t a5⟩⟩⟩, h3, h4⟩ he hd
        · cases a5
      · cases h2
    · cases h1
  · rename_i x y x' y' hargs
    simp only [Bool.and_eq_true] at hk
    obtain ⟨⟨⟨h1, h2⟩, h3⟩, h4⟩ := hk
    split at h1
    · rename_i e hu
      simp only [bind_some'] at hu
      obtain ⟨t, ht, hu⟩ := hu
      simp only [Bool.and_eq_true] at h1
      obtain ⟨⟨a1, a2⟩, a3⟩ := h1
      split at h2
      · rename_i k hu1
        simp only [bind_some'] at hu1
        obtain ⟨t1, ht1, hu1⟩ := hu1
        exact s_appZ hr hf ho ⟨⟨hc, hargs, ⟨⟨t, ht, hu⟩, ⟨t1, k, ht1, hu1⟩, isSz_t a1, isSz_t a2, zeroIs_cells a3 σ w⟩⟩, h3, h4⟩ he hd
      · cases h2
    · cases h1
  · rename_i x y size x' y' hargs
    simp only [Bool.and_eq_true] at hk
    obtain ⟨⟨h1, h2⟩, h3⟩ := hk
    split at h1
    · rename_i e hu
      simp only [bind_some'] at hu
      obtain ⟨t, ht, hu⟩ := hu
      simp only [Bool.and_eq_true] at h1
      exact s_copy hr hf ho ⟨⟨hc, hargs, t, e, ht, hu, isSz_t h1.1, nb_t h1.2⟩, h2, h3⟩ he hd
    · cases h1
  · rename_i x zero x' hargs
    simp only [Bool.and_eq_true] at hk
    obtain ⟨h1, h2⟩ := hk
    split at h1
    · rename_i e hu
      simp only [bind_some'] at hu
      obtain ⟨t, ht, hu⟩ := hu
      simp only [Bool.and_eq_true] at h1
      exact s_clear hr hf ho ⟨⟨hc, hargs, t, e, ht, hu, h1.1, by intro e; subst e; simp at h1⟩, h2⟩ he hd
    · cases h1
  · exact s_min hr hf ho ⟨hc, hk⟩ he hd
  · exact s_max hr hf ho ⟨hc, hk⟩ he hd
  · cases hk
end
end Go.Abs
