import Derived.Test.YtjcakemgghfflaaXSnd6
set_option linter.unusedVariables false
set_option linter.unusedSimpArgs false
namespace Go.Abs
open Go.RowKit Go.MapKept
theorem prim_desc {P : Program} {t : TypeId} {c : CTy} (h : prim P t c = true) : P.underlying t = some (descC c) ∧ (c = .bool ∨ c = .str ∨ ∃ k, c = .int k) := by
  unfold prim at h
  split at h
  · rename_i k hu
    split at h
    · obtain rfl := of_decide_eq_true h
      exact ⟨hu, .inr (.inr ⟨_, rfl⟩)⟩
    · cases h
  · rename_i hu
    split at h
    · exact ⟨hu, .inl rfl⟩
    · cases h
  · rename_i hu
    split at h
    · exact ⟨hu, .inr (.inl rfl)⟩
    · cases h
  · cases h
theorem isKeyA_conc {t : CTy} {v : AVal} (h : isKeyA t v = true) (σ : Env) : IsKey (descC t) (conc σ v) := by
  cases t <;> cases v <;> simp_all [isKeyA, descC, IsKey, conc]
theorem isKeyA_flat {t : CTy} {v : AVal} (h : isKeyA t v = true) (n : Nat) : v.flat = true ∧ ok n v := by
  cases t <;> cases v <;> simp_all [isKeyA, AVal.flat, ok]
theorem bytes_data (a b : ByteArray) : a.data.toList = b.data.toList ↔ a = b := by
  constructor
  · intro e
    obtain ⟨a⟩ := a; obtain ⟨b⟩ := b
    simp only at e
    rw [Array.toList_inj.1 e]
  · rintro rfl; rfl
theorem keyB_conc {t : CTy} {k k' : AVal} (h : isKeyA t k = true) (σ : Env) (h' : IsKey (descC t) (conc σ k')) : keyB k k' = true ↔ conc σ k' = conc σ k := by
  have hf : ∀ d f a b, ¬ IsKey d (conc σ (.fn f a b)) := fun d f a b => by cases f <;> cases d <;> simp [conc, IsKey]
  have hi : ∀ d f a, ¬ IsKey d (conc σ (.ifc f a)) := fun d f a => by cases f <;> cases d <;> simp [conc, IsKey]
  cases k' with
  | fn f a b => exact absurd h' (hf _ f a b)
  | ifc f a => exact absurd h' (hi _ f a)
  | int q b =>
    cases t <;> simp [isKeyA] at h <;> simp [IsKey, descC, conc] at h'
    subst h'
    split at h
    · obtain rfl := of_decide_eq_true h
      simp only [keyB, beq_iff_eq, conc, Value.int.injEq, true_and]
      exact eq_comm
    · cases h
  | bool b =>
    cases t <;> simp [isKeyA] at h <;> simp [IsKey, descC, conc] at h'
    split at h
    · simp only [keyB, beq_iff_eq, conc, Value.bool.injEq]
      exact eq_comm
    · cases h
  | str b =>
    cases t <;> simp [isKeyA] at h <;> simp [IsKey, descC, conc] at h'
    split at h
    · simp only [keyB, beq_iff_eq, conc, Value.string.injEq, bytes_data]
      exact eq_comm
    · cases h
  | _ => cases t <;> simp [isKeyA] at h <;> simp [IsKey, descC, conc] at h'
theorem entsV_cons (e : MapEntry) (l : List MapEntry) : entsV (e :: l) = e.key :: e.val :: entsV l := rfl
theorem entsV_two {σ : Env} {e : MapEntry} {l : List MapEntry} {cells : List AVal} (h : entsV (e :: l) = concL σ cells) : ∃ k v r, cells = k :: v :: r ∧ conc σ k = e.key ∧ conc σ v = e.val ∧ entsV l = concL σ r := by
  rw [entsV_cons] at h
  match cells, h with
  | k :: v :: r, h =>
    simp only [concL, List.cons.injEq] at h
    exact ⟨k, v, r, rfl, h.1.symm, h.2.1.symm, h.2.2⟩
  | [k], h => simp [concL] at h
  | [], h => simp [concL] at h
theorem findA_spec {t : CTy} {k : AVal} (hk : isKeyA t k = true) (σ : Env) : ∀ (l : List MapEntry) (cells : List AVal), entsV l = concL σ cells → (∀ e ∈ l, IsKey (descC t) e.key) →
    (findA k cells = none ∧ ∀ e ∈ l, e.key ≠ conc σ k) ∨ ∃ v, findA k cells = some v ∧ v ∈ cells ∧ ∃ (j : Nat) (e : MapEntry), l[j]? = some e ∧ e.key = conc σ k ∧ e.val = conc σ v ∧ ∀ i e', i < j → l[i]? = some e' → e'.key ≠ conc σ k
  | [], cells, h, _ => by
    left
    cases cells with
    | nil => exact ⟨rfl, by simp⟩
    | cons x r => simp [entsV, concL] at h
  | e :: l, cells, h, hks => by
    obtain ⟨k', v, r, rfl, h1, h2, h3⟩ := entsV_two h
    have hkb := keyB_conc hk σ (k' := k') (by rw [h1]; exact hks e (by simp))
    simp only [findA]
    cases hb : keyB k k' with
    | true =>
      right
      exact ⟨v, rfl, by simp, 0, e, rfl, by rw [← h1]; exact hkb.1 hb, h2.symm, fun i _ hi => by omega⟩
    | false =>
      have hne : e.key ≠ conc σ k := fun x => by rw [← h1] at x; rw [hkb.2 x] at hb; cases hb
      rcases findA_spec hk σ l r h3 (fun x hx => hks x (by simp [hx])) with ⟨a, b⟩ | ⟨u, a, b, j, e', c1, c2, c3, c4⟩
      · left
        exact ⟨by simpa using a, fun x hx => by
          rcases List.mem_cons.1 hx with rfl | hx
          · exact hne
          · exact b x hx⟩
      · right
        exact ⟨u, by simpa using a, by simp [b], j + 1, e', by simpa using c1, c2, c3, fun i x hi hx => by
          cases i with
          | zero => simp at hx; subst hx; exact hne
          | succ i => exact c4 i x (by omega) (by simpa using hx)⟩
theorem updA_spec {t : CTy} {k v : AVal} (hk : isKeyA t k = true) (σ : Env) : ∀ (l : List MapEntry) (cells : List AVal), entsV l = concL σ cells → (∀ e ∈ l, IsKey (descC t) e.key) →
    ((∀ e ∈ l, e.key ≠ conc σ k) → updA k v cells = cells ++ [k, v]) ∧
    (∀ j e, l[j]? = some e → e.key = conc σ k → (∀ i e', i < j → l[i]? = some e' → e'.key ≠ conc σ k) → entsV (l.modify j fun e => { e with key := conc σ k, val := conc σ v }) = concL σ (updA k v cells)) ∧ (∀ y ∈ updA k v cells, y ∈ cells ∨ y = k ∨ y = v)
  | [], cells, h, _ => by
    cases cells with
    | nil => exact ⟨fun _ => rfl, fun j e h => by simp at h, fun y hy => by simp [updA] at hy; exact .inr hy⟩
    | cons x r => simp [entsV, concL] at h
  | e :: l, cells, h, hks => by
    obtain ⟨k', u, r, rfl, h1, h2, h3⟩ := entsV_two h
    have hkb := keyB_conc hk σ (k' := k') (by rw [h1]; exact hks e (by simp))
    obtain ⟨i1, i2, i3⟩ := updA_spec (v := v) hk σ l r h3 (fun x hx => hks x (by simp [hx]))
    simp only [updA]
    cases hb : keyB k k' with
    | true =>
      have he : e.key = conc σ k := by rw [← h1]; exact hkb.1 hb
      refine ⟨fun hn => absurd he (hn e (by simp)), fun j x hx hxk hfst => ?_, fun y hy => ?_⟩
      · have hj : j = 0 := by
          cases j with
          | zero => rfl
          | succ j => exact absurd he (hfst 0 e (by omega) rfl)
        subst hj
        show entsV ({ e with key := conc σ k, val := conc σ v } :: l) = _
        rw [entsV_cons, h3]
        simp [concL]
      · simp only [cond_true, List.mem_cons] at hy
        rcases hy with rfl | rfl | hy
        · exact .inr (.inl rfl)
        · exact .inr (.inr rfl)
        · exact .inl (by simp [hy])
    | false =>
      have hne : e.key ≠ conc σ k := fun x => by rw [← h1] at x; rw [hkb.2 x] at hb; cases hb
      refine ⟨fun hn => ?_, fun j x hx hxk hfst => ?_, fun y hy => ?_⟩
      · rw [cond_false, i1 (fun x hx => hn x (by simp [hx]))]; rfl
      · cases j with
        | zero => simp at hx; subst hx; exact absurd hxk hne
        | succ j =>
          have := i2 j x (by simpa using hx) hxk (fun i e' hi he' => hfst (i + 1) e' (by omega) (by simpa using he'))
          rw [List.modify_succ_cons, entsV_cons, this, cond_false]
          simp [concL, h1, h2]
      · simp only [cond_false, List.mem_cons] at hy
        rcases hy with rfl | rfl | hy
        · exact .inl (by simp)
        · exact .inl (by simp)
        · rcases i3 y hy with h4 | h4
          · exact .inl (by simp [h4])
          · exact .inr h4
section
variable {P : Program} {σ σ' : Env} {B : Nat → Prop} {w0 w w' : World} {M M' : Mem} {fr : Fr} {act : Act} {o : Oper} {next : Act → World → Prop} {Q : Exit → Act → World → Prop}
variable {fc : Bool} {call : CallF} {meth : MethF} {v : AVal}
theorem s_mkMap (hr : Rep σ B w0 M w) (hf : FrR σ M.n fr act.tmps) {t : TypeId} {c : CTy} (ho : o.op = .makeMap t none)
    (he : evalOp fc call meth (.mkMap c) fr M K0 = some (v, M')) (hd : Done σ B w0 M next act o.dst v M') : o.wp P act w next Q := by
  simp only [evalOp, K0] at he
  obtain ⟨rfl, rfl⟩ := Prod.mk.inj (Option.some.inj he)
  have hp : Pushed w (w.alloc (.map #[] 0)) (.map #[] 0) := ⟨rfl, rfl, rfl, rfl⟩
  have hnew : Rep (σ.upd M.n w.heap.size 0 0) B w0 (M.alloc ⟨[], .map c⟩) (w.alloc (.map #[] 0)) := by
    refine hr.more ⟨[], .map c⟩ (Env.upd_ext _ _ _ _ _) (fun o y hy hk => hp.old hr o y hy hk) ?_ (by simp [okL]) rfl (fun l h => by simp [AObj.mine] at h) (hp.below hr.below hr.size) (fun k hk => by rw [hp.heap]; have := hr.size k hk; simp; omega) ?_
    · refine ⟨by simp; exact fun h => Nat.lt_irrefl _ (hr.size _ h), #[], 0, ?_, rfl, stamped_empty 0, by simp⟩
      rw [hp.heap, Env.upd_blk]; simp
    · intro t _ o y t' hy hk
      rw [Env.upd_blk]
      have := live_blk hr hy (by rw [hk]; simp)
      omega
  refine wp_st ?_ hnew (Env.upd_ext _ _ _ _ _) (by simp) (by simp [ok]) hd
  simp [execOp, ho, Instr.makeMap, conc]
theorem keyTy_t {t : TypeId} {c : CTy} (h : keyTy P t c = true) : ∃ kt et, P.underlying t = some (.map kt et) ∧ P.underlying kt = some (descC c) := by
  unfold keyTy at h
  split at h
  · rename_i kt et hu
    exact ⟨kt, et, hu, (prim_desc h).1⟩
  · cases h
theorem elemZ_run {t kt et : TypeId} {zero : AVal} (hu : P.underlying t = some (.map kt et)) (h : elemZ P t zero = true) (σ : Env) (n : Nat) (w : World) : (zeroValue et).run P w = .ok (conc σ zero) w ∧ ok n zero ∧ zero.flat = true := by
  unfold elemZ at h
  rw [hu] at h
  simp only at h
  unfold zero1 at h
  cases hi : P.info? et with
  | none => simp [hi] at h
  | some i =>
    cases hz : i.zero with
    | none => simp [hi, hz] at h
    | some z =>
      simp only [hi, hz, Option.bind_some] at h
      cases ha : absV z with
      | none => simp [ha] at h
      | some v =>
        simp only [ha, Bool.and_eq_true] at h
        obtain ⟨hs, hf⟩ := h
        have hs := AVal.same_eq _ _ hs
        subst hs
        obtain ⟨h1, h2⟩ := absV_ok σ n z v ha
        exact ⟨by simp [zeroValue, typeInfo, hi, hz, h1], h2, hf⟩
theorem ents_run (hr : Rep σ B w0 M w) {q : Nat} {ob : AObj} {c : CTy} {l : List AVal} (hq : M.get q = some ob) (hl : ob.ents c = some l) :
    l = ob.cells ∧ ob.kind = .map c ∧ ¬ B (σ.blk q) ∧ ∃ (es : Array MapEntry) (clock : Nat), w.heap[σ.blk q]? = some (.map es clock) ∧ entsV es.toList = concL σ l ∧ Stamped es clock ∧ ∀ e ∈ es.toList, IsKey (descC c) e.key := by
  obtain ⟨rfl, hk⟩ := AObj.ents_eq hl
  have hobj := hr.obj q ob hq
  unfold RepObj at hobj
  rw [hk] at hobj
  obtain ⟨h1, es, cl, h2, h3, h4, h5⟩ := hobj
  exact ⟨rfl, hk, h1, es, cl, h2, h3, h4, h5⟩
theorem s_look (hr : Rep σ B w0 M w) (hf : FrR σ M.n fr act.tmps) {t : TypeId} {c : CTy} {x k : Operand} {x' k' : AOpd} {ec : CTy} {zero : AVal} {two two' : Bool} (ho : o.op = .lookup t x k two)
    (hk : keyTy P t c = true ∧ elemZ P t zero = true ∧ two = two' ∧ okOpd x x' = true ∧ okOpd k k' = true)
    (he : evalOp fc call meth (.look c ec zero two' x' k') fr M K0 = some (v, M')) (hd : Done σ B w0 M next act o.dst v M') : o.wp P act w next Q := by
  obtain ⟨hkt, hz, rfl, hk1, hk2⟩ := hk
  simp only [evalOp, ev_eq, bind_some', K0, cond_none] at he
  obtain ⟨xv, hx, kv, hkv, r, hr1, hkey, qv, hqv, he⟩ := he
  replace he := cast_some he
  obtain ⟨kt, et, hu, hud⟩ := keyTy_t hkt
  obtain ⟨e1, e2⟩ := opd_ok hf hk1 hx
  obtain ⟨e3, e4⟩ := opd_ok hf hk2 hkv
  have hkc := isKeyA_conc hkey σ
  cases xv <;> simp [AVal.map?] at hr1
  subst hr1
  rename_i r
  obtain ⟨z1, z2, z3⟩ := elemZ_run hu hz σ M.n w
  have lookOk : ∀ (res : Option AVal), (match res with | some u => ok M.n u | none => True) → cond two (some (.tup [res.getD zero, .bool res.isSome], M)) (some (res.getD zero, M)) = some (v, M') →
      M' = M ∧ ok M.n v ∧ conc σ v = (let (a, b) := (match res with | some u => (conc σ u, true) | none => (conc σ zero, false)); if two then .tuple #[a, .bool b] else a) := by
    intro res hres h
    cases res with
    | none =>
      cases two <;> simp only [cond_true, cond_false, Option.getD_none, Option.isSome_none] at h <;> obtain ⟨rfl, rfl⟩ := Prod.mk.inj (Option.some.inj h)
      · exact ⟨rfl, z2, by simp⟩
      · exact ⟨rfl, by simp [ok, okL, z2], by simp [conc, concL]⟩
    | some u =>
      cases two <;> simp only [cond_true, cond_false, Option.getD_some, Option.isSome_some] at h <;> obtain ⟨rfl, rfl⟩ := Prod.mk.inj (Option.some.inj h)
      · exact ⟨rfl, hres, by simp⟩
      · exact ⟨rfl, by simp only [ok, okL]; exact ⟨hres, trivial, trivial⟩, by simp [conc, concL]⟩
  cases r with
  | none =>
    simp only [lookP, Option.some.injEq] at hqv
    subst hqv
    obtain ⟨rfl, hv, hcv⟩ := lookOk none trivial he
    refine wp_pure hr ?_ hv hd
    simp only [execOp, ho, e1, e3, conc, Option.map_none, Instr.lookup, Sem.run_bind, run_underlying hu, Result.andThen_ok, Sem.run_pure, run_checkKey hud hkc, Array.toList_empty, run_findKey hud (l := []) (a := none) rfl, z1]
    rw [hcv]
  | some q =>
    simp only [lookP, bind_some', Option.some.injEq] at hqv
    obtain ⟨ob, hob, l, hl, hqv⟩ := hqv
    subst hqv
    obtain ⟨rfl, hkd, hB, es, cl, hh, hes, hst, hks⟩ := ents_run hr hob hl
    have hfind := findA_spec hkey σ es.toList ob.cells hes hks
    have hnow := findNow_spec hkc es.toList 0 hks
    have hok := (hr.oks q ob hob).1
    rcases hfind with ⟨f1, f2⟩ | ⟨u, f1, f2, j, e, f3, f4, f5, f6⟩
    · rw [f1] at he
      obtain ⟨rfl, hv, hcv⟩ := lookOk none trivial he
      refine wp_pure hr ?_ hv hd
      rcases hnow with ⟨n1, n2⟩ | ⟨j, e, n1, n2, n3⟩
      · simp only [execOp, ho, e1, e3, conc, Option.map_some, Instr.lookup, Sem.run_bind, run_underlying hu, Result.andThen_ok, Sem.run_pure, MapKept.run_getObj_map hh, run_checkKey hud hkc, run_findKey hud n1, z1]
        rw [hcv]
      · exact absurd n3 (f2 e (List.mem_of_getElem? n2))
    · rw [f1] at he
      obtain ⟨rfl, hv, hcv⟩ := lookOk (some u) ((okL_iff _ _).1 hok u f2) he
      refine wp_pure hr ?_ hv hd
      rcases hnow with ⟨n1, n2⟩ | ⟨j', e', n1, n2, n3⟩
      · exact absurd f4 (n2 e (List.mem_of_getElem? f3))
      · have : j' = j := by
          rcases Nat.lt_trichotomy j' j with h | h | h
          · exact absurd n3 (f6 j' e' h n2)
          · exact h
          · have hnd := (stamped_iff es cl).1 hst
            have hj : j < es.toList.length := (List.getElem?_eq_some_iff.1 f3).1
            have hj' : j' < es.toList.length := (List.getElem?_eq_some_iff.1 n2).1
            have := List.pairwise_iff_getElem.1 hnd.2.2 j j' hj hj' h
            rw [(List.getElem?_eq_some_iff.1 f3).2, (List.getElem?_eq_some_iff.1 n2).2] at this
            exact absurd (f4.trans n3.symm) this
        subst this
        rw [f3] at n2
        obtain rfl := Option.some.inj n2
        simp only [execOp, ho, e1, e3, conc, Option.map_some, Instr.lookup, Sem.run_bind, run_underlying hu, Result.andThen_ok, Sem.run_pure, MapKept.run_getObj_map hh, run_checkKey hud hkc, run_findKey hud n1]
        rw [hcv, f5]
theorem s_mapUpd (hr : Rep σ B w0 M w) (hf : FrR σ M.n fr act.tmps) {t : TypeId} {c : CTy} {x k y : Operand} {x' k' y' : AOpd} (ho : o.op = .mapUpdate t x k y ∨ o.op = .insert t x k y)
    (hk : keyTy P t c = true ∧ okOpd x x' = true ∧ okOpd k k' = true ∧ okOpd y y' = true)
    (he : evalOp fc call meth (.mapUpd c x' k' y') fr M K0 = some (v, M')) (hd : Done σ B w0 M next act o.dst v M') : o.wp P act w next Q := by
  obtain ⟨hkt, hk1, hk2, hk3⟩ := hk
  simp only [evalOp, ev_eq, bind_some', K0, cond_none, Bool.and_eq_true] at he
  obtain ⟨xv, hx, kv, hkv, yv, hy, r, hr1, q, hq, ob, hob, l, hl, ⟨hkey, hfl⟩, he⟩ := he
  subst hq
  obtain ⟨rfl, rfl⟩ := Prod.mk.inj (Option.some.inj he)
  obtain ⟨kt, et, hu, hud⟩ := keyTy_t hkt
  obtain ⟨e1, e2⟩ := opd_ok hf hk1 hx
  obtain ⟨e3, e4⟩ := opd_ok hf hk2 hkv
  obtain ⟨e5, e6⟩ := opd_ok hf hk3 hy
  have hkc := isKeyA_conc hkey σ
  cases xv <;> simp [AVal.map?] at hr1
  subst hr1
  obtain ⟨rfl, hkd, hB, es, cl, hh, hes, hst, hks⟩ := ents_run hr hob hl
  obtain ⟨u1, u2, u3⟩ := updA_spec (v := yv) hkey σ es.toList ob.cells hes hks
  have hok := hr.oks q ob hob
  have hoku : okL M.n (updA kv yv ob.cells) ∧ (updA kv yv ob.cells).all AVal.flat = true := by
    refine ⟨(okL_iff _ _).2 fun z hz => ?_, List.all_eq_true.2 fun z hz => ?_⟩
    · rcases u3 z hz with h | rfl | rfl
      · exact (okL_iff _ _).1 hok.1 z h
      · exact e4
      · exact e6
    · rcases u3 z hz with h | rfl | rfl
      · exact List.all_eq_true.1 hok.2 z h
      · exact (isKeyA_flat hkey 0).1
      · exact hfl
  have fin : ∀ (es' : Array MapEntry) (cl' : Nat), entsV es'.toList = concL σ (updA kv yv ob.cells) → Stamped es' cl' → (∀ e ∈ es'.toList, IsKey (descC c) e.key) → Rep σ B w0 (M.put q ⟨updA kv yv ob.cells, .map c⟩) { w with heap := w.heap.setIfInBounds (σ.blk q) (.map es' cl') } := by
    intro es' cl' h1 h2 h3
    have hset := heap_set (o' := .map es' cl') hh
    have hlt := Mem.get_lt hob
    refine ⟨fun p z hz => ?_, fun p z hz => ?_, fun p p' z z' m m' hz hz' hm hm' hblk => ?_, ?_, fun i hi => by simpa using hr.size i hi, fun p p' z z' t t' hz hz' hm hm' hblk => ?_⟩
    · rw [Mem.get_put] at hz
      split at hz
      · obtain rfl := Option.some.inj hz; exact hoku
      · exact hr.oks p z hz
    · rw [Mem.get_put] at hz
      split at hz
      · rename_i hp
        obtain rfl := Option.some.inj hz
        obtain rfl := hp.1
        exact ⟨hB, es', cl', hset.1, h1, h2, h3⟩
      · rename_i hp
        have hne : p ≠ q := fun h => hp ⟨h, hlt⟩
        refine (hr.obj p z hz).frame (Env.ext_refl M.n σ) (Mem.get_lt hz) (hr.oks p z hz).1 (fun hd' => hset.2 _ fun hblk => ?_)
        cases hkk : z.kind with
        | dead => exact hd' hkk
        | map t' => exact hne (hr.injM p q z ob t' c hz hob hkk hkd hblk)
        | ro s =>
          have := hr.obj p z hz
          unfold RepObj at this
          rw [hkk] at this
          exact hB (hblk ▸ this.1)
        | fixed =>
          have := hr.obj p z hz
          unfold RepObj at this
          rw [hkk] at this
          obtain ⟨_, _, _, e, h4⟩ := this
          rw [hblk, hh] at h4
          cases h4
        | grow s =>
          have := hr.obj p z hz
          unfold RepObj at this
          rw [hkk] at this
          obtain ⟨_, arr, e, fr, h4, _⟩ := this
          rw [hblk, hh] at h4
          cases h4
    · have old : ∀ p z m, (M.put q ⟨updA kv yv ob.cells, .map c⟩).get p = some z → z.mine = some m → M.get p = some z := by
        intro p z m hz hm
        rw [Mem.get_put] at hz
        split at hz
        · obtain rfl := Option.some.inj hz; simp [AObj.mine] at hm
        · exact hz
      exact hr.inj p p' z z' m m' (old p z m hz hm) (old p' z' m' hz' hm') hm hm' hblk
    · exact hr.below.trans ⟨rfl, rfl, rfl, by simp, fun i hi => hset.2 i (fun e => hB (e ▸ hi))⟩
    · have old : ∀ p z t, (M.put q ⟨updA kv yv ob.cells, .map c⟩).get p = some z → z.kind = .map t → ∃ z' t', M.get p = some z' ∧ z'.kind = .map t' := by
        intro p z t hz hm
        rw [Mem.get_put] at hz
        split at hz
        · rename_i hp
          obtain rfl := hp.1
          exact ⟨ob, c, hob, hkd⟩
        · exact ⟨z, t, hz, hm⟩
      obtain ⟨y1, t1, g1, k1⟩ := old p z t hz hm
      obtain ⟨y2, t2, g2, k2⟩ := old p' z' t' hz' hm'
      exact hr.injM p p' y1 y2 t1 t2 g1 g2 k1 k2 hblk
  have hnow := findNow_spec hkc es.toList 0 hks
  have hexec : ∀ w', (Instr.mapUpdate t (.map (some (σ.blk q))) (conc σ kv) (conc σ yv)).run P w = .ok () w' → (execOp act.eval o).run P w = .ok .skip w' := by
    intro w' h
    rcases ho with ho | ho <;> simp only [execOp, ho, e1, e3, e5, conc, Option.map_some, Sem.run_bind, h, Result.andThen_ok, Sem.run_pure]
  rcases hnow with ⟨n1, n2⟩ | ⟨j, e, n1, n2, n3⟩
  · refine wp_skip' (hexec { w with heap := w.heap.setIfInBounds (σ.blk q) (.map (es.push { key := conc σ kv, val := conc σ yv, born := cl }) (cl + 1)) } ?_) (fin _ _ ?_ (stamped_push hst n2) ?_) (Env.ext_refl _ _) (by simp) hd
    · simp [Instr.mapUpdate, run_underlying hu, MapKept.run_getObj_map hh, run_checkKey hud hkc, run_findKey hud n1, run_setObj_map _ hh, Result.andThen]
    · rw [u1 n2]
      simp only [Array.toList_push, entsV, List.flatMap_append, List.flatMap_cons, List.flatMap_nil, List.append_nil]
      have hes' : List.flatMap (fun e : MapEntry => [e.key, e.val]) es.toList = concL σ ob.cells := hes
      rw [hes', concL_eq, concL_eq, List.map_append]
      rfl
    · intro z hz
      simp only [Array.toList_push, List.mem_append, List.mem_singleton] at hz
      rcases hz with hz | rfl
      · exact hks z hz
      · exact hkc
  · have hj : es[j]? = some e := by simpa using n2
    have hkey' : ∀ e', es[j]? = some e' → ({ e' with key := conc σ kv, val := conc σ yv } : MapEntry).key = e'.key := fun e' he' => by rw [hj] at he'; cases he'; exact n3.symm
    refine wp_skip' (hexec { w with heap := w.heap.setIfInBounds (σ.blk q) (.map (es.modify j fun e => { e with key := conc σ kv, val := conc σ yv }) cl) } ?_) (fin _ _ ?_ (stamped_modify hst _ _ (fun _ _ => rfl) (fun e' _ he' => hkey' e' he')) (isKey_modify hks _ _ hkey')) (Env.ext_refl _ _) (by simp) hd
    · simp [Instr.mapUpdate, run_underlying hu, MapKept.run_getObj_map hh, run_checkKey hud hkc, run_findKey hud n1, hj, n3, run_keyThatStays hkc, run_setObj_map _ hh, Result.andThen]
    · rw [Array.toList_modify]
      refine u2 j e n2 n3 (fun i e' hi he' => ?_)
      have hnd := (stamped_iff es cl).1 hst
      have hj1 : i < es.toList.length := (List.getElem?_eq_some_iff.1 he').1
      have hj2 : j < es.toList.length := (List.getElem?_eq_some_iff.1 n2).1
      have := List.pairwise_iff_getElem.1 hnd.2.2 i j hj1 hj2 hi
      rw [(List.getElem?_eq_some_iff.1 he').2, (List.getElem?_eq_some_iff.1 n2).2] at this
      intro h
      exact this (h.trans n3.symm)
end
end Go.Abs
