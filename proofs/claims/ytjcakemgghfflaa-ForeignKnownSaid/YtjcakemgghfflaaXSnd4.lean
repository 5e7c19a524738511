import Derived.Test.YtjcakemgghfflaaXSnd3
set_option linter.unusedVariables false
set_option linter.unusedSimpArgs false
namespace Go.Abs
open Go.RowKit
theorem growBy_le (n : Nat) (hn : 256 ≤ n) : ∀ r c, c ≤ 2 * n → Builtin.growBy n r c ≤ 2 * n
  | 0, c, h => by simpa [Builtin.growBy] using h
  | r + 1, c, h => by
    unfold Builtin.growBy
    split
    · exact h
    · exact growBy_le n hn r _ (by omega)
theorem nextcap_le (n c : Nat) (h : c < n) : Builtin.nextslicecap n c ≤ 2 * n := by
  unfold Builtin.nextslicecap
  split
  · omega
  · split
    · omega
    · exact growBy_le n (by omega) 4 c (by omega)
section
variable {P : Program} {σ σ' : Env} {B : Nat → Prop} {w0 w w' : World} {M M' : Mem} {fr : Fr} {act : Act} {o : Oper} {next : Act → World → Prop} {Q : Exit → Act → World → Prop}
variable {fc : Bool} {call : CallF} {meth : MethF} {v : AVal}
structure AppTy (P : Program) (ats : Array TypeId) (e : TypeId) (size bytes : Nat) : Prop where
  t0 : ∃ t, ats[0]? = some t ∧ P.underlying t = some (.slice e)
  t1 : ∃ t d, ats[1]? = some t ∧ P.underlying t = some d ∧ ((∃ e', d = .slice e') ∨ d = .string)
  hsize : sizeB P e = some size
  hbytes : bytesB P e = some bytes
  size0 : size ≠ 0
  bytes0 : bytes ≠ 0
  zero : ∃ i z, P.info? e = some i ∧ i.zero = some z ∧ z.cells.size = size
theorem app_in {ats : Array TypeId} {ty e : TypeId} {size bytes : Nat} (ht : AppTy P ats e size bytes) {base : Option Addr} {len cap n : Nat} {x : Value} (hn : (Builtin.lenOf x).run P w = .ok n w) (hle : len + n ≤ cap)
    {cs : Array Value} (hcs : (Builtin.firstCells size n x).run P w = .ok cs w) (hst : (match base with | some a => storeCells (a.add (len * size)) cs.toList | none => pure () : Sem Unit).run P w = .ok () w') :
    (Builtin.append_ ats ty #[.slice base len cap, x]).run P w = .ok (.slice base (len + n) cap) w' := by
  obtain ⟨t0, h0, hu0⟩ := ht.t0
  obtain ⟨t1, d1, h1, hu1, hd1⟩ := ht.t1
  have ga : (#[.slice base len cap, x] : Array Value)[0]? = some (.slice base len cap) := rfl
  have gb : (#[.slice base len cap, x] : Array Value)[1]? = some x := rfl
  have key : ∀ (z : Bool), z = false → (Builtin.append_ ats ty #[.slice base len cap, x]).run P w = .ok (.slice base (len + n) cap) w' := by
    intro z _
    rcases hd1 with ⟨e', rfl⟩ | rfl
    all_goals
      unfold Builtin.append_
      simp only [h0, h1, ga, gb, Sem.run_bind, run_underlying hu0, run_underlying hu1, Result.andThen_ok, sizeB_run ht.hsize, Sem.run_pure]
      simp only [Bool.false_eq_true, if_false, Sem.run_bind, hn, Result.andThen_ok, if_pos hle, Bool.not_false, if_true, hcs]
      cases base with
      | none =>
        simp only [Sem.run_pure] at hst ⊢
        obtain ⟨-, rfl⟩ := Result.ok.inj hst
        simp
      | some a =>
        simp only at hst ⊢
        simp [hst]
  exact key false rfl
theorem app_out {ats : Array TypeId} {ty e : TypeId} {size bytes : Nat} (ht : AppTy P ats e size bytes) {base : Option Addr} {len cap n : Nat} {x : Value} (hn : (Builtin.lenOf x).run P w = .ok n w) (hle : ¬ len + n ≤ cap)
    (hb : (len + n) * bytes ≤ 2 ^ 47) {old cs : Array Value} (hold : (Builtin.firstCells size len (.slice base len cap)).run P { w with drawn := w.drawn + 1 } = .ok old { w with drawn := w.drawn + 1 }) (hcs : (Builtin.firstCells size n x).run P { w with drawn := w.drawn + 1 } = .ok cs { w with drawn := w.drawn + 1 }) :
    ∃ (newCap : Nat) (rest : Array Value) (w' : World), len + n ≤ newCap ∧ rest.size = (newCap - (len + n)) * size ∧ Pushed w w' (.cells (old ++ cs ++ rest) e (0, 0)) ∧
      (Builtin.append_ ats ty #[.slice base len cap, x]).run P w = .ok (.slice (some ⟨w.heap.size, 0, none⟩) (len + n) newCap) w' := by
  obtain ⟨t0, h0, hu0⟩ := ht.t0
  obtain ⟨t1, d1, h1, hu1, hd1⟩ := ht.t1
  obtain ⟨i, z, hi, hzz, hzs⟩ := ht.zero
  obtain ⟨i', hi', hib⟩ := bytesB_run ht.hbytes w
  have hii : i' = i := by simp [typeInfo, hi] at hi'; exact hi'.symm
  subst hii
  have hbz : i'.bytes ≠ 0 := by rw [hib]; exact ht.bytes0
  have hnext : ¬ (Builtin.nextslicecap (len + n) cap * i'.bytes > 2 ^ 48) := by
    have := nextcap_le (len + n) cap (by omega)
    have := Nat.mul_le_mul_right i'.bytes this
    rw [hib] at *
    have h2 : 2 * (len + n) * bytes = 2 * ((len + n) * bytes) := Nat.mul_assoc _ _ _
    omega
  let cap' := Question.cut (.appendCap (len + n) cap e) (w.tape w.drawn (.appendCap (len + n) cap e))
  have hcap : len + n ≤ cap' := by simp only [cap', Question.cut]; omega
  refine ⟨cap', Builtin.zeroCells z.cells (cap' - (len + n)), { { w with drawn := w.drawn + 1 } with heap := w.heap.push (.cells (old ++ cs ++ Builtin.zeroCells z.cells (cap' - (len + n))) e (0, 0)) }, hcap, ?_, ⟨rfl, rfl, rfl, rfl⟩, ?_⟩
  · simp [Builtin.zeroCells, hzs]
  · have ga : (#[.slice base len cap, x] : Array Value)[0]? = some (.slice base len cap) := rfl
    have gb : (#[.slice base len cap, x] : Array Value)[1]? = some x := rfl
    have hi2 : ∀ w : World, (typeInfo e).run P w = .ok i' w := fun w => by simp [typeInfo, hi]
    have hz2 : ∀ w : World, (zeroValue e).run P w = .ok z w := fun w => by simp [zeroValue, typeInfo, hi, hzz]
    have hch : (choose (.appendCap (len + n) cap e)).run P w = .ok cap' { w with drawn := w.drawn + 1 } := by
      simp [run_choose, Question.forced, cap']
    rcases hd1 with ⟨e', rfl⟩ | rfl
    all_goals
      unfold Builtin.append_
      simp only [h0, h1, ga, gb, Sem.run_bind, run_underlying hu0, run_underlying hu1, Result.andThen_ok, sizeB_run ht.hsize, Sem.run_pure]
      simp only [Bool.false_eq_true, if_false, hn, Result.andThen_ok, if_neg hle, hi2, hbz, or_self, and_false, Sem.run_bind, Sem.run_pure, hnext]
      simp only [hch, Result.andThen_ok, run_askRoom, Bool.not_false, if_true]
      rw [hold]
      simp only [Result.andThen_ok]
      rw [hcs]
      simp only [Result.andThen_ok, hz2, newRow, Sem.run_bind, run_newObj, Sem.run_pure]
theorem Rep.drew (hr : Rep σ B w0 M w) {w' : World} (hh : w'.heap = w.heap) (ho : w'.os = w.os) (ht : w'.tape = w.tape) (hu : w'.output = w.output) : Rep σ B w0 M w' := by
  refine ⟨hr.oks, fun o x hx => ?_, hr.inj, hr.below.trans ⟨ho, ht, hu, by rw [hh]; exact Nat.le_refl _, fun k _ => by rw [hh]⟩, by rw [hh]; exact hr.size, hr.injM⟩
  exact (hr.obj o x hx).frame (Env.ext_refl M.n σ) (Mem.get_lt hx) (hr.oks o x hx).1 (fun _ => by rw [hh])
theorem first0 (y : AVal) {K : Nat → Option Unit} {n : Nat} (hy : (∃ a c, y = .sl a n c) ∨ ∃ s, y = .str s ∧ n = s.size) (size : Nat) (w : World) : (Builtin.firstCells size 0 (conc σ y)).run P w = .ok #[] w := by
  rcases hy with ⟨a, c, rfl⟩ | ⟨s, rfl, rfl⟩
  · cases a with
    | none => simp [conc, Builtin.firstCells, loadCells, loadCellsFrom]
    | some p =>
      obtain ⟨z, hz⟩ := slA_some σ p c
      simp [conc, hz, Builtin.firstCells, loadCells, loadCellsFrom]
  · simp only [conc, Builtin.firstCells, Sem.run_pure]
    congr 1
    apply Array.ext'
    simp [ByteArray.data_extract]
theorem s_appC (hr : Rep σ B w0 M w) {size bytes : Nat} {e : TypeId} {ct : Array TypeId} {base : Option (Nat × Nat)} {len : Nat} {cap : Cap} {b : AVal} (hty : AppTy P ct e size bytes) (o1 : ok M.n (.sl base len cap))
    (hop : ∀ r w', (Builtin.append_ ct o.type #[.slice (slA σ base cap) len (capOf σ base cap), conc σ b]).run P w = .ok r w' → (execOp act.eval o).run P w = .ok (.value r) w')
    (he : (appK fc size bytes M base len cap b fun a n c M => some (.sl a n c, M)) = some (v, M')) (hd : Done σ B w0 M next act o.dst v M') : o.wp P act w next Q := by
  simp only [appK] at he
  replace he := lenOf_run (P := P) (σ := σ) he
  obtain ⟨n, he, hn, hy⟩ := he
  have len2 : ∀ (cs : List AVal) (q : Prop), (cs.length = n * size ∨ ∃ s, b = .str s ∧ size = 1 ∧ cs.length = min n s.size) → cs.length = n * size := by
    rintro cs - (h | ⟨s, hs, hs1, h⟩)
    · exact h
    · rcases hy with ⟨a, c, rfl⟩ | ⟨s', rfl, rfl⟩
      · cases hs
      · cases hs
        rw [h, hs1]; simp
  have hout : ∀ (M1 : Mem) (old cs : List AVal), Rep σ B w0 M1 w → M1.n = M.n → ¬ len + n ≤ capOf σ base cap → (len + n) * bytes ≤ 2 ^ 47 →
      (∀ w', Rep σ B w0 M w' → (Builtin.firstCells size len (conc σ (.sl base len cap))).run P w' = .ok (concL σ old).toArray w') →
      (∀ w', Rep σ B w0 M w' → (Builtin.firstCells size n (conc σ b)).run P w' = .ok (concL σ cs).toArray w') → okL M.n old → okL M.n cs → old.all AVal.flat = true → cs.all AVal.flat = true →
      old.length = len * size → cs.length = n * size → v = .sl (some (M.n, 0)) (len + n) (.unk 0) → M' = M1.alloc ⟨old ++ cs, .grow size⟩ → o.wp P act w next Q := by
    intro M1 old cs hr1 hMn hle hby hold hcs k1 k2 f1 f2 l1 l2 hv hM'
    have hdr : Rep σ B w0 M { w with drawn := w.drawn + 1 } := hr.drew rfl rfl rfl rfl
    obtain ⟨newCap, rest, w', hcap, hrest, hp, hrun⟩ := app_out (P := P) hty (ty := o.type) (base := slA σ base cap) (len := len) (cap := capOf σ base cap) (hn w) hle hby
      (old := (concL σ old).toArray) (cs := (concL σ cs).toArray) (hold _ hdr) (hcs _ hdr)
    subst hv hM'
    have hmul : newCap * size = len * size + n * size + (newCap - (len + n)) * size := by
      rw [← Nat.add_mul, ← Nat.add_mul]; congr 1; omega
    have hge : len * size + n * size ≤ newCap * size := by omega
    have harr : (concL σ old).toArray ++ (concL σ cs).toArray = (concL σ (old ++ cs)).toArray := by simp [concL_eq]
    rw [harr] at hp
    have hgr := hr1.grown (cells := old ++ cs) (s := size) (c := newCap) hp (by rw [hMn]; exact (okL_iff _ _).2 fun z hz => (List.mem_append.1 hz).elim ((okL_iff _ _).1 k1 z) ((okL_iff _ _).1 k2 z))
      (by rw [List.all_append, f1, f2]; rfl) (by simp) (by simp [hrest, l1, l2]; omega) (by simp [l1, l2]; omega)
      (fun i z hz => by
        have hlt := (List.getElem?_eq_some_iff.1 hz).1
        rw [Array.getElem?_append_left (by simpa using hlt)]
        simp only [List.getElem?_toArray, concL_eq, List.getElem?_map, hz, Option.map_some])
    rw [hMn] at hgr
    refine wp_st ?_ hgr (Env.upd_ext _ _ _ _ _) (by simp [hMn]) (by simp [ok, lt1, hMn]) hd
    rw [hop _ _ hrun]
    simp [conc, cAddr_new, capOf]
  cases cap with
  | known k =>
    simp only [cond_none] at he
    by_cases hle : len + n ≤ k
    · rw [Nat.ble_eq_true_of_le hle, cond_true] at he
      by_cases hn0 : n = 0
      · subst hn0
        rw [Nat.beq_refl, cond_true] at he
        obtain ⟨rfl, rfl⟩ := Prod.mk.inj (Option.some.inj he)
        refine wp_pure hr ?_ o1 hd
        refine hop _ _ ?_
        have := app_in (P := P) (w := w) (w' := w) hty (ty := o.type) (base := base.map (cAddr σ)) (hn w) (by simpa [capOf] using hle) (first0 (σ := σ) b (K := fun _ => none) hy size w) (by cases base <;> rfl)
        simpa [conc, capOf] using this
      · have hb0 : Nat.beq n 0 = false := by cases n; exact absurd rfl hn0; rfl
        rw [hb0, cond_false] at he
        cases base with
        | none => simp at he
        | some p =>
          simp only at he
          obtain ⟨cs, he, hrun, k2, f2, l2⟩ := firstOf_run (P := P) hr he
          simp only [bind_some'] at he
          obtain ⟨M1, hM1, he⟩ := he
          obtain ⟨rfl, rfl⟩ := Prod.mk.inj (Option.some.inj he)
          obtain ⟨w', hw', hr', hn'⟩ := st_run (P := P) hr hM1 k2 f2
          refine wp_st (σ' := σ) ?_ hr' (Env.ext_refl _ _) (by omega) (by simp only [ok, lt1] at o1 ⊢; omega) hd
          refine hop _ _ ?_
          have := app_in (P := P) (w := w) (w' := w') hty (ty := o.type) (base := some (cAddr σ p)) (hn w) (by simpa [capOf] using hle) (hrun w hr) (by
            simp only
            rw [show (cAddr σ p).add (len * size) = cAddr σ (p.1, p.2 + len * size) from cAddr_add σ p.1 p.2 _]
            exact hw')
          simpa [conc, capOf] using this
    · have hb0 : Nat.ble (len + n) k = false := by
        cases hbb : Nat.ble (len + n) k
        · rfl
        · exact absurd (Nat.le_of_ble_eq_true hbb) hle
      rw [hb0, cond_false] at he
      simp only [cond_none] at he
      obtain ⟨hby, he⟩ := he
      have he0 := he
      obtain ⟨old, he, hrun1, k1, f1, l1⟩ := firstOf_run (P := P) hr he
      obtain ⟨cs, he, hrun2, k2, f2, l2⟩ := firstOf_run (P := P) hr he
      obtain ⟨rfl, rfl⟩ := Prod.mk.inj (Option.some.inj he)
      refine hout M old cs hr rfl (by simpa [capOf] using hle) (Nat.le_of_ble_eq_true hby) hrun1 hrun2 k1 k2 f1 f2 ?_ (len2 _ True l2) rfl rfl
      rcases l1 with l1 | ⟨s, hs, _⟩
      · exact l1
      · cases hs
  | unk k =>
    cases base with
    | none => simp at he
    | some p =>
      simp only [bind_some', cond_none, Bool.and_eq_true] at he
      obtain ⟨x0, hx0, l, hl, ⟨⟨hle1, hpk⟩, hkd⟩, he⟩ := he
      obtain ⟨rfl, hnd⟩ := AObj.live_eq hl
      have hle1 := Nat.le_of_ble_eq_true hle1
      have hpk := Nat.eq_of_beq_eq_true hpk
      have hobj := hr.obj p.1 x0 hx0
      have hcap : x0.cells.length ≤ σ.cap p.1 * size := by
        unfold RepObj at hobj
        cases hkk : x0.kind with
        | fixed => simp [hkk] at hkd
        | dead => simp [hkk] at hkd
        | map t => simp [hkk] at hkd
        | ro s => rw [hkk] at hobj; simp only [hkk] at hkd; rw [← Nat.eq_of_beq_eq_true hkd]; exact hobj.2.2
        | grow s => rw [hkk] at hobj; simp only [hkk] at hkd; rw [← Nat.eq_of_beq_eq_true hkd]; obtain ⟨_, _, _, _, _, _, _, h, _⟩ := hobj; exact h
      have hpos : 0 < size := Nat.pos_of_ne_zero hty.size0
      have hroom : ∀ m, p.2 + m * size ≤ σ.cap p.1 * size → m ≤ σ.cap p.1 - k := by
        intro m hm
        rw [hpk, ← Nat.add_mul] at hm
        have := Nat.le_of_mul_le_mul_right hm hpos
        omega
      have hkc : k ≤ σ.cap p.1 := by
        have : k * size ≤ σ.cap p.1 * size := by omega
        exact Nat.le_of_mul_le_mul_right this hpos
      by_cases hn0 : n = 0
      · subst hn0
        rw [Nat.beq_refl, cond_true] at he
        obtain ⟨rfl, rfl⟩ := Prod.mk.inj (Option.some.inj he)
        refine wp_pure hr ?_ o1 hd
        refine hop _ _ ?_
        have hin : len + 0 ≤ σ.cap p.1 - k := hroom _ (by simpa using Nat.le_trans hle1 hcap)
        have := app_in (P := P) (w := w) (w' := w) hty (ty := o.type) (base := some (cAddr σ p)) (hn w) hin (first0 (σ := σ) b (K := fun _ => none) hy size w) rfl
        simpa [conc, capOf] using this
      · have hb0 : Nat.beq n 0 = false := by cases n; exact absurd rfl hn0; rfl
        rw [hb0, cond_false] at he
        cases hkk : x0.kind with
        | fixed => simp [hkk] at he
        | dead => simp [hkk] at he
        | map t => simp [hkk] at he
        | ro s => simp [hkk] at he
        | grow s =>
          simp only [hkk] at he hkd
          have hss := Nat.eq_of_beq_eq_true hkd
          subst hss
          have hm : x0.mine = some x0.cells := by simp [AObj.mine, hkk]
          by_cases hin : p.2 + (len + n) * s ≤ x0.cells.length
          · rw [Nat.ble_eq_true_of_le hin, cond_true] at he
            obtain ⟨cs, he, hrun, k2, f2, l2⟩ := firstOf_run (P := P) hr he
            simp only [bind_some'] at he
            obtain ⟨M1, hM1, he⟩ := he
            obtain ⟨rfl, rfl⟩ := Prod.mk.inj (Option.some.inj he)
            obtain ⟨w', hw', hr', hn'⟩ := st_run (P := P) hr hM1 k2 f2
            refine wp_st (σ' := σ) ?_ hr' (Env.ext_refl _ _) (by omega) (by simp only [ok, lt1] at o1 ⊢; omega) hd
            refine hop _ _ ?_
            have := app_in (P := P) (w := w) (w' := w') hty (ty := o.type) (base := some (cAddr σ p)) (hn w) (hroom _ (Nat.le_trans hin hcap)) (hrun w hr) (by
              simp only
              rw [show (cAddr σ p).add (len * s) = cAddr σ (p.1, p.2 + len * s) from cAddr_add σ p.1 p.2 _]
              exact hw')
            simpa [conc, capOf] using this
          · have hb1 : Nat.ble (p.2 + (len + n) * s) x0.cells.length = false := by
              cases hbb : Nat.ble (p.2 + (len + n) * s) x0.cells.length
              · rfl
              · exact absurd (Nat.le_of_ble_eq_true hbb) hin
            rw [hb1, cond_false] at he
            simp only [cond_none, Bool.and_eq_true] at he
            obtain ⟨⟨hend, hby⟩, he⟩ := he
            have hend := Nat.eq_of_beq_eq_true hend
            have hby := Nat.le_of_ble_eq_true hby
            obtain ⟨cs, he, hrun, k2, f2, l2⟩ := firstOf_run (P := P) hr he
            have l2 := len2 _ True l2
            obtain ⟨hv, hM'⟩ := Prod.mk.inj (Option.some.inj he)
            have hdl : (x0.cells.drop p.2).length = len * s := by simp; omega
            have hdok : okL M.n (x0.cells.drop p.2) := (okL_iff _ _).2 fun z hz => (okL_iff _ _).1 (hr.oks p.1 x0 hx0).1 z (List.mem_of_mem_drop hz)
            have hdfl : (x0.cells.drop p.2).all AVal.flat = true := List.all_eq_true.2 fun z hz => List.all_eq_true.1 (hr.oks p.1 x0 hx0).2 z (List.mem_of_mem_drop hz)
            by_cases hfit : len + n ≤ σ.cap p.1 - k
            ·
              unfold RepObj at hobj
              rw [hkk] at hobj
              obtain ⟨hB, arr, e0, fr0, hh, hfr, hsz, hcl, hcell⟩ := hobj
              have hmul : (len + n) * s + p.2 ≤ σ.cap p.1 * s := by
                rw [hpk, ← Nat.add_mul]
                exact Nat.mul_le_mul_right _ (by omega)
              have hmul2 : (len + n) * s = len * s + n * s := Nat.add_mul _ _ _
              obtain ⟨w', hw', hwr⟩ := run_stores P (concL σ cs) 0 w (σ.blk p.1) (σ.off p.1 + (p.2 + len * s)) arr e0 fr0 hh (by simp [l2]; omega) hfr (fun v hv => by
                rw [concL_eq] at hv
                obtain ⟨a, ha, rfl⟩ := List.mem_map.1 hv
                exact flat_oneCell σ a (List.all_eq_true.1 f2 a ha))
              have hplt : p.1 < M.n := Mem.get_lt hx0
              have hσ := Env.upd_ext σ M.n (σ.blk p.1) (σ.off p.1 + p.2) (σ.cap p.1 - k)
              have hnew : Rep (σ.upd M.n (σ.blk p.1) (σ.off p.1 + p.2) (σ.cap p.1 - k)) B w0 ((M.put p.1 ⟨[], .dead⟩).alloc ⟨x0.cells.drop p.2 ++ cs, .grow s⟩) w' := by
                refine (hr.gone p.1).more ⟨x0.cells.drop p.2 ++ cs, .grow s⟩ hσ ?_ ?_ ?_ ?_ ?_ (hwr.below hr.below hB) (by rw [hwr.size]; exact hr.size)
                · intro q y hy hk
                  rw [Mem.get_put] at hy
                  split at hy
                  · obtain rfl := Option.some.inj hy; exact absurd rfl hk
                  · rename_i hq
                    have hne : q ≠ p.1 := fun h => hq ⟨h, hplt⟩
                    refine hwr.else_ _ ?_
                    intro hblk
                    cases hkq : y.kind with
                    | dead => exact hk hkq
                    | map t =>
                      have hm1 := hr.obj q y hy
                      unfold RepObj at hm1
                      rw [hkq] at hm1
                      obtain ⟨_, es, cl, hm1, _⟩ := hm1
                      rw [hblk, hh] at hm1
                      cases hm1
                    | ro s' =>
                      have := hr.obj q y hy
                      unfold RepObj at this
                      rw [hkq] at this
                      exact hB (hblk ▸ this.1)
                    | fixed => exact hne (hr.inj q p.1 y x0 y.cells _ hy hx0 (by simp [AObj.mine, hkq]) hm hblk)
                    | grow s' => exact hne (hr.inj q p.1 y x0 y.cells _ hy hx0 (by simp [AObj.mine, hkq]) hm hblk)
                · refine ⟨by simp; exact hB, _, e0, fr0, by simp only [Mem.n_put, Env.upd_blk]; exact hwr.here, by rw [laid_size]; exact hfr, ?_, ?_, ?_⟩
                  · rw [laid_size]
                    simp only [Mem.n_put, Env.upd_off, Env.upd_cap, Nat.sub_mul]
                    rw [hpk]
                    have : k * s ≤ σ.cap p.1 * s := Nat.mul_le_mul_right _ hkc
                    omega
                  · simp only [Mem.n_put, Env.upd_cap, Nat.sub_mul, List.length_append, hdl, l2]
                    rw [← hpk]; omega
                  · intro i z hz
                    simp only [Mem.n_put, Env.upd_off]
                    have hzok : ok M.n z := by
                      rcases List.mem_append.1 (List.mem_of_getElem? hz) with h | h
                      · exact (okL_iff _ _).1 hdok z h
                      · exact (okL_iff _ _).1 k2 z h
                    rw [conc_ext hσ z hzok, laid_get _ _ _ _ (by simp [l2]; omega)]
                    by_cases hi : i < len * s
                    · rw [if_neg (by omega)]
                      rw [List.getElem?_append_left (by omega), List.getElem?_drop] at hz
                      rw [Nat.add_assoc]
                      exact hcell _ z hz
                    · rw [List.getElem?_append_right (by omega), hdl] at hz
                      have hlt := (List.getElem?_eq_some_iff.1 hz).1
                      rw [if_pos (by simp; omega), concL_eq, List.getElem?_map, show σ.off p.1 + p.2 + i - (σ.off p.1 + (p.2 + len * s) + 0) = i - len * s from by omega, hz]
                      rfl
                · simp only [Mem.n_put]
                  exact okL_mono (by simp) _ ((okL_iff _ _).2 fun z hz => (List.mem_append.1 hz).elim ((okL_iff _ _).1 hdok z) ((okL_iff _ _).1 k2 z))
                · rw [List.all_append, hdfl, f2]; rfl
                · intro _ _ q y m hy hmy
                  simp only [Mem.n_put, Env.upd_blk]
                  rw [Mem.get_put] at hy
                  split at hy
                  · obtain rfl := Option.some.inj hy; simp [AObj.mine] at hmy
                  · rename_i hq
                    have hne : q ≠ p.1 := fun h => hq ⟨h, hplt⟩
                    exact fun hblk => hne (hr.inj q p.1 y x0 m _ hy hx0 hmy hm hblk)
              subst hv hM'
              refine wp_st ?_ hnew hσ (by simp) (by simp [ok, lt1]) hd
              have := app_in (P := P) (w := w) (w' := w') hty (ty := o.type) (base := some (cAddr σ p)) (hn w) hfit (hrun w hr) (by
                simp only
                rw [show (cAddr σ p).add (len * s) = cAddr σ (p.1, p.2 + len * s) from cAddr_add σ p.1 p.2 _]
                exact hw')
              rw [hop _ _ (by simpa [conc, capOf] using this)]
              simp [conc, capOf, cAddr]
            ·
              refine hout (M.put p.1 ⟨[], .dead⟩) (x0.cells.drop p.2) cs (hr.gone p.1) rfl hfit hby (fun w' hr' => ?_) hrun hdok k2 hdfl f2 hdl l2 hv.symm hM'.symm
              have hraw : ∀ j v, (x0.cells.drop p.2)[j]? = some v → M.ld p.1 (p.2 + j) = some v := by
                intro j v hj
                simp only [Mem.ld, Mem.cells, hx0, Option.bind_some, hl]
                rwa [List.getElem?_drop] at hj
              have := run_loads (P := P) hr' hraw
              rw [hdl] at this
              simp only [conc, Builtin.firstCells, Option.map_some]
              exact this
  | fin k d =>
    simp only [cond_none] at he
    obtain ⟨hl0, he⟩ := he
    obtain rfl := Nat.eq_of_beq_eq_true hl0
    by_cases hn0 : n = 0
    · subst hn0
      rw [Nat.beq_refl, cond_true] at he
      obtain ⟨rfl, rfl⟩ := Prod.mk.inj (Option.some.inj he)
      refine wp_pure hr ?_ o1 hd
      refine hop _ _ ?_
      have := app_in (P := P) (w := w) (w' := w) hty (ty := o.type) (base := slA σ base (.fin k d)) (len := 0) (cap := capOf σ base (.fin k d)) (hn w) (by omega) (first0 (σ := σ) b (K := fun _ => none) hy size w)
        (by cases slA σ base (.fin k d) <;> rfl)
      simpa [conc] using this
    · have hb0 : Nat.beq n 0 = false := by cases n; exact absurd rfl hn0; rfl
      rw [hb0, cond_false] at he
      cases base with
      | none => simp at he
      | some p =>
        simp only [bind_some'] at he
        obtain ⟨x0, hx0, l, hl, he⟩ := he
        obtain ⟨rfl, hnd⟩ := AObj.live_eq hl
        cases hkk : x0.kind with
        | fixed => simp [hkk] at he
        | dead => simp [hkk] at he
        | map t => simp [hkk] at he
        | ro s => simp [hkk] at he
        | grow s =>
          simp only [hkk, cond_none, Bool.and_eq_true] at he
          obtain ⟨⟨⟨⟨hss, hkl⟩, hpd⟩, hby⟩, he⟩ := he
          have hss := Nat.eq_of_beq_eq_true hss
          subst hss
          have hkl := Nat.le_of_ble_eq_true hkl
          have hpd := Nat.eq_of_beq_eq_true hpd
          have hby := Nat.le_of_ble_eq_true hby
          have hpos : 0 < s := Nat.pos_of_ne_zero hty.size0
          have hm : x0.mine = some x0.cells := by simp [AObj.mine, hkk]
          have hobj := hr.obj p.1 x0 hx0
          unfold RepObj at hobj
          rw [hkk] at hobj
          obtain ⟨hB, arr, e0, fr0, hh, hfr, hsz, hcl, hcell⟩ := hobj
          have hkc : k ≤ σ.cap p.1 := by
            have : k * s ≤ σ.cap p.1 * s := by omega
            exact Nat.le_of_mul_le_mul_right this hpos
          obtain ⟨cs, he, hrun, k2, f2, l2⟩ := firstOf_run (P := P) hr he
          have l2 := len2 _ True l2
          obtain ⟨hv, hM'⟩ := Prod.mk.inj (Option.some.inj he)
          by_cases hfit : n ≤ σ.cap p.1 - k
          · have hne : σ.cap p.1 ≠ k := by omega
            have hmul : k * s + n * s ≤ σ.cap p.1 * s := by
              rw [← Nat.add_mul]
              exact Nat.mul_le_mul_right _ (by omega)
            obtain ⟨w', hw', hwr⟩ := run_stores P (concL σ cs) 0 w (σ.blk p.1) (σ.off p.1 + (p.2 + d)) arr e0 fr0 hh (by simp [l2]; omega) hfr (fun v hv => by
              rw [concL_eq] at hv
              obtain ⟨a, ha, rfl⟩ := List.mem_map.1 hv
              exact flat_oneCell σ a (List.all_eq_true.1 f2 a ha))
            have hplt : p.1 < M.n := Mem.get_lt hx0
            have hσ := Env.upd_ext σ M.n (σ.blk p.1) (σ.off p.1 + (p.2 + d)) (σ.cap p.1 - k)
            have hnew : Rep (σ.upd M.n (σ.blk p.1) (σ.off p.1 + (p.2 + d)) (σ.cap p.1 - k)) B w0 ((M.put p.1 ⟨[], .dead⟩).alloc ⟨cs, .grow s⟩) w' := by
              refine (hr.gone p.1).more ⟨cs, .grow s⟩ hσ ?_ ?_ ?_ ?_ ?_ (hwr.below hr.below hB) (by rw [hwr.size]; exact hr.size)
              · intro q y hy hk
                rw [Mem.get_put] at hy
                split at hy
                · obtain rfl := Option.some.inj hy; exact absurd rfl hk
                · rename_i hq
                  have hne : q ≠ p.1 := fun h => hq ⟨h, hplt⟩
                  refine hwr.else_ _ ?_
                  intro hblk
                  cases hkq : y.kind with
                  | dead => exact hk hkq
                  | map t =>
                    have hm1 := hr.obj q y hy
                    unfold RepObj at hm1
                    rw [hkq] at hm1
                    obtain ⟨_, es, cl, hm1, _⟩ := hm1
                    rw [hblk, hh] at hm1
                    cases hm1
                  | ro s' =>
                    have := hr.obj q y hy
                    unfold RepObj at this
                    rw [hkq] at this
                    exact hB (hblk ▸ this.1)
                  | fixed => exact hne (hr.inj q p.1 y x0 y.cells _ hy hx0 (by simp [AObj.mine, hkq]) hm hblk)
                  | grow s' => exact hne (hr.inj q p.1 y x0 y.cells _ hy hx0 (by simp [AObj.mine, hkq]) hm hblk)
              · refine ⟨by simp; exact hB, _, e0, fr0, by simp only [Mem.n_put, Env.upd_blk]; exact hwr.here, by rw [laid_size]; exact hfr, ?_, ?_, ?_⟩
                · rw [laid_size]
                  simp only [Mem.n_put, Env.upd_off, Env.upd_cap, Nat.sub_mul]
                  have : k * s ≤ σ.cap p.1 * s := Nat.mul_le_mul_right _ hkc
                  omega
                · simp only [Mem.n_put, Env.upd_cap, Nat.sub_mul, l2]
                  omega
                · intro i z hz
                  simp only [Mem.n_put, Env.upd_off]
                  have hzok : ok M.n z := (okL_iff _ _).1 k2 z (List.mem_of_getElem? hz)
                  have hlt := (List.getElem?_eq_some_iff.1 hz).1
                  rw [conc_ext hσ z hzok, laid_get _ _ _ _ (by simp [l2]; omega)]
                  rw [if_pos (by simp; omega), concL_eq, List.getElem?_map, show σ.off p.1 + (p.2 + d) + i - (σ.off p.1 + (p.2 + d) + 0) = i from by omega, hz]
                  rfl
              · simp only [Mem.n_put]
                exact okL_mono (by simp) _ k2
              · exact f2
              · intro _ _ q y m hy hmy
                simp only [Mem.n_put, Env.upd_blk]
                rw [Mem.get_put] at hy
                split at hy
                · obtain rfl := Option.some.inj hy; simp [AObj.mine] at hmy
                · rename_i hq
                  have hne : q ≠ p.1 := fun h => hq ⟨h, hplt⟩
                  exact fun hblk => hne (hr.inj q p.1 y x0 m _ hy hx0 hmy hm hblk)
            subst hv hM'
            refine wp_st ?_ hnew hσ (by simp) (by simp [ok, lt1]) hd
            have hslA : slA σ (some p) (.fin k d) = some (cAddr σ (p.1, p.2 + d)) := by simp [slA, hne]
            have := app_in (P := P) (w := w) (w' := w') hty (ty := o.type) (base := some (cAddr σ (p.1, p.2 + d))) (len := 0) (cap := σ.cap p.1 - k) (hn w) (by omega) (hrun w hr) (by
              simp only
              rw [show (cAddr σ (p.1, p.2 + d)).add (0 * s) = cAddr σ (p.1, p.2 + d) from by rw [Nat.zero_mul]; rfl]
              exact hw')
            rw [hop _ _ (by rw [hslA]; exact this)]
            simp [conc, capOf, cAddr]
          · refine hout (M.put p.1 ⟨[], .dead⟩) [] cs (hr.gone p.1) rfl (by simp only [capOf]; omega) (by rw [Nat.zero_add]; exact hby) (fun w' hr' => ?_) hrun (by simp [okL]) k2 (by simp) f2 (by simp) l2 (by rw [Nat.zero_add]; exact hv.symm) hM'.symm
            obtain ⟨z, hz⟩ := slA_some σ p (.fin k d)
            simp [conc, hz, Builtin.firstCells, loadCells, loadCellsFrom, concL]
  | odd =>
    simp only [cond_none] at he
    obtain ⟨hl0, he⟩ := he
    obtain rfl := Nat.eq_of_beq_eq_true hl0
    by_cases hn0 : n = 0
    · subst hn0
      rw [Nat.beq_refl, cond_true] at he
      obtain ⟨rfl, rfl⟩ := Prod.mk.inj (Option.some.inj he)
      refine wp_pure hr ?_ o1 hd
      refine hop _ _ ?_
      have := app_in (P := P) (w := w) (w' := w) hty (ty := o.type) (base := slA σ base .odd) (len := 0) (cap := capOf σ base .odd) (hn w) (by omega) (first0 (σ := σ) b (K := fun _ => none) hy size w)
        (by cases slA σ base .odd <;> rfl)
      simpa [conc] using this
    · have hb0 : Nat.beq n 0 = false := by cases n; exact absurd rfl hn0; rfl
      rw [hb0, cond_false] at he
      simp only [cond_none] at he
      obtain ⟨hby, he⟩ := he
      obtain ⟨cs, he, hrun, k2, f2, l2⟩ := firstOf_run (P := P) hr he
      have l2 := len2 _ True l2
      obtain ⟨hv, hM'⟩ := Prod.mk.inj (Option.some.inj he)
      refine hout M [] cs hr rfl (by simp only [capOf]; omega) (by rw [Nat.zero_add]; exact Nat.le_of_ble_eq_true hby) (fun w' hr' => ?_) hrun (by simp [okL]) k2 (by simp) f2 (by simp) l2 (by rw [Nat.zero_add]; exact hv.symm) hM'.symm
      cases base with
      | none => simp [conc, Builtin.firstCells, concL]
      | some p =>
        obtain ⟨z, hz⟩ := slA_some σ p .odd
        simp [conc, hz, Builtin.firstCells, loadCells, loadCellsFrom, concL]
theorem s_app (hr : Rep σ B w0 M w) (hf : FrR σ M.n fr act.tmps) {c : Call} {x y : Operand} {x' y' : AOpd} {size bytes : Nat} {e : TypeId} (ho : o.op = .call c)
    (hk : (c.callee = .builtin .append ∧ c.args.toList = [x, y] ∧ AppTy P c.argTypes e size bytes) ∧ okOpd x x' = true ∧ okOpd y y' = true)
    (he : evalOp fc call meth (.app size bytes x' y') fr M K0 = some (v, M')) (hd : Done σ B w0 M next act o.dst v M') : o.wp P act w next Q := by
  simp only [evalOp, ev_eq, bind_some', K0] at he
  obtain ⟨a, ha, b, hb, he⟩ := he
  obtain ⟨⟨hc, hargs, hty⟩, hk1, hk2⟩ := hk
  obtain ⟨e1, o1⟩ := opd_ok hf hk1 ha
  obtain ⟨e2, o2⟩ := opd_ok hf hk2 hb
  obtain ⟨cc, ca, ct⟩ := c
  simp only at hc hargs hty
  obtain rfl : ca = #[x, y] := by cases ca; simp_all
  subst hc
  cases a <;> try (simp at he; done)
  rename_i base len cap
  refine s_appC hr hty o1 ?_ he hd
  intro r w' h
  have hm : (#[x, y] : Array Operand).map act.eval = #[.slice (slA σ base cap) len (capOf σ base cap), conc σ b] := by
    simp [e1, e2, conc]
  simp only [execOp, ho, resolve, Sem.run_bind, Sem.run_pure, Result.andThen_ok, invoke, builtin, hm, h]
structure AppZTy (P : Program) (ats : Array TypeId) (e : TypeId) : Prop where
  t0 : ∃ t, ats[0]? = some t ∧ P.underlying t = some (.slice e)
  t1 : ∃ t k, ats[1]? = some t ∧ P.underlying t = some (.int k)
  hsize : sizeB P e = some 1
  hbytes : bytesB P e = some 1
  zero : ∃ i z, P.info? e = some i ∧ i.zero = some z ∧ z.cells = #[.int .u8 0]
theorem zerosB_size (n : Nat) : (zerosB n).size = n := by simp [zerosB, ByteArray.size]
theorem zerosB_cells (n : Nat) : ((zerosB n).extract 0 n).data.map (fun b => Value.int .u8 b.toNat) = if n * 1 = 0 then #[] else Builtin.zeroCells #[.int .u8 0] n := by
  have h1 : ((zerosB n).extract 0 n).data = (List.replicate n (0 : UInt8)).toArray := by
    apply Array.ext'
    simp [ByteArray.data_extract, zerosB]
  rw [h1]
  by_cases h : n * 1 = 0
  · rw [if_pos h]
    have : n = 0 := by omega
    subst this; simp
  · rw [if_neg h]
    apply Array.ext
    · simp [Builtin.zeroCells]
    · intro i h1 h2
      simp [Builtin.zeroCells, Nat.mod_one]
theorem app_zero {ats : Array TypeId} {ty e t0 : TypeId} (hz : AppZTy P ats e) (h0 : ats[0]? = some t0) (hu0 : P.underlying t0 = some (.slice e)) {base : Option Addr} {len cap n : Nat} (hle : len + n ≤ 2 ^ 47) {r : Value}
    (h : (Builtin.append_ #[t0, t0] ty #[.slice base len cap, conc σ (.str (zerosB n))]).run P w = .ok r w') : (Builtin.append_ ats ty #[.slice base len cap, conc σ (.int .i64 n)]).run P w = .ok r w' := by
  obtain ⟨t1, k, h1, hu1⟩ := hz.t1
  obtain ⟨i, z, hi, hzz, hzc⟩ := hz.zero
  obtain ⟨i', hi', hib⟩ := bytesB_run hz.hbytes w
  have hii : i' = i := by simp [typeInfo, hi] at hi'; exact hi'.symm
  subst hii
  have hi2 : ∀ w : World, (typeInfo e).run P w = .ok i' w := fun w => by simp [typeInfo, hi]
  have hz2 : ∀ w : World, (zeroValue e).run P w = .ok z w := fun w => by simp [zeroValue, typeInfo, hi, hzz]
  have ga : ∀ x : Value, (#[.slice base len cap, x] : Array Value)[0]? = some (.slice base len cap) := fun _ => rfl
  have gb : ∀ x : Value, (#[.slice base len cap, x] : Array Value)[1]? = some x := fun _ => rfl
  have gc : (#[t0, t0] : Array TypeId)[0]? = some t0 := rfl
  have gd : (#[t0, t0] : Array TypeId)[1]? = some t0 := rfl
  have hwr : IntKind.i64.wrap ((n : Nat) : Int) = ((n : Nat) : Int) := by
    unfold IntKind.wrap
    simp [IntKind.bits, IntKind.signed]
    split <;> omega
  have hneg : ¬ (((n : Nat) : Int) < 0) := by omega
  have hbig : ¬ (((n : Nat) : Int) * ((i'.bytes : Nat) : Int) > 2 ^ 48) := by rw [hib]; omega
  have hmax : ¬ (((len + n : Nat) : Int) > IntKind.i64.max) := by simp only [IntKind.max, IntKind.bits, IntKind.signed]; simp; omega
  unfold Builtin.append_ at h ⊢
  simp only [gc, gd, ga, gb, conc, Sem.run_bind, run_underlying hu0, Result.andThen_ok, sizeB_run hz.hsize, Sem.run_pure, Bool.false_eq_true, if_false, Builtin.lenOf, zerosB_size, Builtin.firstCells, zerosB_cells] at h
  simp only [h0, h1, ga, gb, conc, Sem.run_bind, run_underlying hu0, run_underlying hu1, Result.andThen_ok, sizeB_run hz.hsize, Sem.run_pure, if_true, asInt, asIntOf, hwr, Int.toNat_natCast, hneg, if_false, hi2, hbig]
  by_cases hc : len + n ≤ cap
  · simp only [if_pos hc] at h ⊢
    by_cases hn0 : n * 1 = 0
    · simp only [hn0, if_true, Bool.not_false, Bool.not_true, Bool.false_eq_true, if_false, Sem.run_bind, Sem.run_pure, Result.andThen_ok] at h ⊢
      exact h
    · simp only [hn0, if_true, Bool.not_false, Bool.not_true, Bool.false_eq_true, if_false, Sem.run_bind, Sem.run_pure, Result.andThen_ok, hz2, hzc] at h ⊢
      exact h
  · have hnext : ¬ (Builtin.nextslicecap (len + n) cap * i'.bytes > 2 ^ 48) := by
      have := nextcap_le (len + n) cap (by omega)
      rw [hib]
      omega
    have hbz : i'.bytes ≠ 0 := by rw [hib]; decide
    simp only [if_neg hc] at h ⊢
    by_cases hn0 : n * 1 = 0
    · simp only [hn0, hmax, hbz, hnext, hi2, false_and, or_self, and_false, if_true, Bool.not_false, Bool.not_true, Bool.false_eq_true, if_false, Sem.run_bind, Sem.run_pure, Result.andThen_ok] at h ⊢
      exact h
    · simp only [hn0, hmax, hbz, hnext, hi2, false_and, or_self, and_false, if_true, Bool.not_false, Bool.not_true, Bool.false_eq_true, if_false, Sem.run_bind, Sem.run_pure, Result.andThen_ok, hz2, hzc] at h ⊢
      exact h
theorem zeroIs_cells {e : TypeId} (h : zeroIs P e [.int .u8 0] = true) (σ : Env) (w : World) : ∃ i z, P.info? e = some i ∧ i.zero = some z ∧ z.cells = #[.int .u8 0] := by
  obtain ⟨z, hz, hc, _⟩ := zeroIs_run h σ 0 w
  unfold zeroIs at h
  cases hi : P.info? e with
  | none => rw [hi] at h; simp at h
  | some i =>
    cases hz2 : i.zero with
    | none => rw [hi] at h; simp [hz2] at h
    | some z2 =>
      have : z2 = z := by simpa [zeroValue, typeInfo, hi, hz2] using hz
      subst this
      exact ⟨i, z2, rfl, hz2, by rw [hc]; rfl⟩
theorem s_appZ (hr : Rep σ B w0 M w) (hf : FrR σ M.n fr act.tmps) {c : Call} {x y : Operand} {x' y' : AOpd} {e : TypeId} (ho : o.op = .call c)
    (hk : (c.callee = .builtin .append ∧ c.args.toList = [x, y] ∧ AppZTy P c.argTypes e) ∧ okOpd x x' = true ∧ okOpd y y' = true)
    (he : evalOp fc call meth (.appZ x' y') fr M K0 = some (v, M')) (hd : Done σ B w0 M next act o.dst v M') : o.wp P act w next Q := by
  simp only [evalOp, ev_eq, bind_some', K0, fN_eq, cond_none] at he
  obtain ⟨a, ha, b, hb, s, hs, n, hn, h0, hle, he⟩ := he
  obtain ⟨⟨hc, hargs, hty⟩, hk1, hk2⟩ := hk
  obtain ⟨e1, o1⟩ := opd_ok hf hk1 ha
  obtain ⟨e2, o2⟩ := opd_ok hf hk2 hb
  obtain ⟨cc, ca, ct⟩ := c
  simp only at hc hargs hty
  obtain rfl : ca = #[x, y] := by cases ca; simp_all
  subst hc
  cases a <;> try (simp [AVal.sl?] at hs; done)
  rename_i base len cap
  cases hs
  cases b <;> try (simp [AVal.int?] at hn; done)
  rename_i k n'
  have hkk : k = .i64 ∧ n' = n := by
    unfold AVal.int? at hn
    by_cases e : k = .i64
    · simp [e] at hn; exact ⟨e, hn⟩
    · simp [e] at hn
  obtain ⟨rfl, rfl⟩ := hkk
  have h0 := of_decide_eq_true h0
  have hle := Nat.le_of_ble_eq_true hle
  obtain ⟨t0, q0, u0⟩ := hty.t0
  obtain ⟨i, z, hi, hz1, hz2⟩ := hty.zero
  refine s_appC hr (ct := #[t0, t0]) ⟨⟨t0, rfl, u0⟩, ⟨t0, _, rfl, u0, .inl ⟨e, rfl⟩⟩, hty.hsize, hty.hbytes, by decide, by decide, ⟨i, z, hi, hz1, by rw [hz2]; rfl⟩⟩ o1 ?_ he hd
  intro r w' h
  have hnn : ((n'.toNat : Nat) : Int) = n' := Int.toNat_of_nonneg h0
  have := app_zero (ats := ct) hty q0 u0 hle h
  rw [hnn] at this
  have hm : (#[x, y] : Array Operand).map act.eval = #[.slice (slA σ base cap) len (capOf σ base cap), conc σ (.int .i64 n')] := by
    simp [e1, e2, conc]
  simp only [execOp, ho, resolve, Sem.run_bind, Sem.run_pure, Result.andThen_ok, invoke, builtin, hm, this]
end
end Go.Abs
