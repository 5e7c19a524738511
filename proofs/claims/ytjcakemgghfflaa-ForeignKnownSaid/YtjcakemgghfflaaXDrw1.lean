import Derived.Test.YtjcakemgghfflaaXCongr
set_option linter.unusedVariables false
set_option linter.unusedSimpArgs false
namespace Go.Abs
open Go.RowKit
section
variable {fc : Bool} {call : CallF} {meth : MethF} {fr : Fr} {v : AVal}
theorem free_mem {β : Type} {a : AOp} (h : memFree a = true) (M M' : Mem) (K : AVal → Mem → Option β) : evalOp fc call meth a fr M K = evalOp fc call meth a fr M' (fun v _ => K v M) := by
  cases a <;> first
    | (simp [memFree, isEff, isLoad] at h; done)
    | rfl
    | skip
  rename_i neg t x y
  cases t <;> first
    | (simp [memFree, isEff, isLoad] at h; done)
    | rfl
theorem free_same {a : AOp} (h : memFree a = true) {M M1 : Mem} (he : evalOp fc call meth a fr M K0 = some (v, M1)) : M1 = M ∧ ∀ M', evalOp fc call meth a fr M' K0 = some (v, M') := by
  have h1 := free_mem (fc := fc) (call := call) (meth := meth) (fr := fr) h M M K0
  rw [h1] at he
  obtain ⟨v', M2, k1, k2⟩ := evalOp_split he
  obtain ⟨rfl, rfl⟩ := Prod.mk.inj (Option.some.inj k2)
  refine ⟨rfl, fun M' => ?_⟩
  rw [free_mem h M' M K0]
  have : evalOp fc call meth a fr M (fun v _ => K0 v M') = (evalOp fc call meth a fr M fun v M => some (v, M)).bind fun p => some (p.1, M') := by
    rw [evalOp_bind]; rfl
  rw [this, k1]; rfl
theorem raw_ld {M : Mem} {o i n : Nat} {l : List AVal} (h : M.raw o i n = some l) : ∀ j, j < n → M.ld o (i + j) = l[j]? := by
  intro j hj
  obtain ⟨hl, hc⟩ := raw_some h
  cases hx : l[j]? with
  | none => rw [List.getElem?_eq_none_iff] at hx; omega
  | some v => exact hc j v hx
theorem still_ld {M : Mem} {o i : Nat} {cs : List AVal} (h : M.still o i cs = true) : ∀ j, j < cs.length → M.ld o (i + j) = cs[j]? := by
  unfold Mem.still at h
  split at h
  · rename_i l hl
    obtain rfl := sameL_eq _ _ h
    exact raw_ld hl
  · cases h
theorem ldT_same {M M' : Mem} {t : CTy} {o i : Nat} (h : M'.ld o i = M.ld o i) {β : Type} (K : AVal → Option β) : M'.ldT t o i K = M.ldT t o i K := by
  cases t <;> simp only [Mem.ldT, Mem.ldI, Mem.ldB, Mem.ldS, Mem.ldP, Mem.ldL, Mem.ldM, Mem.ldF, Mem.ldN, h]
theorem ldTs_same {M M' : Mem} : ∀ (ts : List CTy) {o i : Nat}, (∀ j, j < ts.length → M'.ld o (i + j) = M.ld o (i + j)) → ∀ {β : Type} (K : List AVal → Option β), M'.ldTs ts o i K = M.ldTs ts o i K
  | [], _, _, _, _, _ => rfl
  | t :: ts, o, i, h, β, K => by
    simp only [Mem.ldTs]
    rw [ldT_same (by simpa using h 0 (by simp))]
    congr 1; funext v
    exact ldTs_same ts (fun j hj => by have := h (j + 1) (by simp; omega); rwa [show i + (j + 1) = i + 1 + j from by omega] at this) _
theorem ld_flat {M : Mem} {t : CTy} {o i : Nat} {K : AVal → Option (AVal × Mem)} {r} (h : M.ldT t o i K = some r) : ∃ v, M.ld o i = some v ∧ K v = some r ∧ v.cells = [v] := by
  cases t <;> simp only [Mem.ldT, Mem.ldI, Mem.ldB, Mem.ldS, Mem.ldP, Mem.ldL, Mem.ldM, Mem.ldF, Mem.ldN, bind_some'] at h <;>
    obtain ⟨x, ⟨v, hv, hx⟩, hk⟩ := h <;> refine ⟨v, hv, ?_⟩ <;> cases v <;>
    simp [AVal.int?, AVal.bool?, AVal.str?, AVal.ptr?, AVal.sl?, AVal.map?, AVal.fn?, AVal.ifc?, cond_none] at hx <;>
    first
      | (obtain ⟨rfl, rfl⟩ := hx; exact ⟨hk, rfl⟩)
      | (subst hx; exact ⟨hk, rfl⟩)
theorem load_same {a : AOp} (h : isLoad a = true) {M M1 : Mem} (he : evalOp fc call meth a fr M K0 = some (v, M1)) :
    M1 = M ∧ ∃ p, addrOf a fr = some p ∧ ∀ M', M'.still p.1 p.2 v.cells = true → evalOp fc call meth a fr M' K0 = some (v, M') := by
  cases a <;> try (simp [isLoad] at h; done)
  · rename_i t x
    simp only [evalOp, ev_eq, bind_some'] at he
    obtain ⟨y, hy, he⟩ := he
    replace he := ptrK_some he
    obtain ⟨o, i, rfl, he⟩ := he
    have he0 := he
    replace he := ld_flat he
    obtain ⟨u, hu, he, hc⟩ := he
    obtain ⟨rfl, rfl⟩ := Prod.mk.inj (Option.some.inj he)
    refine ⟨rfl, (o, i), by simp [addrOf, ev_eq, hy, AVal.ptr?], fun M' hs => ?_⟩
    rw [hc] at hs
    have hld := still_ld hs 0 (by simp)
    simp only [evalOp, ev_eq, hy, Option.bind_some, ptrK, AVal.ptr?]
    rw [ldT_same (M := M) (by simpa [hu] using hld)]
    have hK : (fun v => K0 v M') = fun v => (K0 v M).bind fun p => some (p.1, M') := by funext v; rfl
    rw [hK, ← ldT_bind, he0]; rfl
  · rename_i ts x
    simp only [evalOp, ev_eq, bind_some'] at he
    obtain ⟨y, hy, he⟩ := he
    replace he := ptrK_some he
    obtain ⟨o, i, rfl, he⟩ := he
    have he0 := he
    replace he := ldTs_some he
    obtain ⟨vs, hl, hvs, he⟩ := he
    obtain ⟨rfl, rfl⟩ := Prod.mk.inj (Option.some.inj he)
    refine ⟨rfl, (o, i), by simp [addrOf, ev_eq, hy, AVal.ptr?], fun M' hs => ?_⟩
    simp only [AVal.cells] at hs
    have hld := still_ld hs
    simp only [evalOp, ev_eq, hy, Option.bind_some, ptrK, AVal.ptr?]
    rw [ldTs_same (M := M) ts (fun j hj => by
      rw [hld j (by omega)]
      cases hx : vs[j]? with
      | none => rw [List.getElem?_eq_none_iff] at hx; omega
      | some z => exact (hvs j z hx).symm)]
    have hK : (fun vs => K0 (.agg vs) M') = fun vs => (K0 (.agg vs) M).bind fun p => some (p.1, M') := by funext v; rfl
    rw [hK, ← ldTs_bind, he0]; rfl
theorem slcK_mem {size : Nat} {a : Option (Nat × Nat)} {len : Nat} {cap : Cap} {M M1 : Mem} {lo hi mx : Option AVal} (h : slcK fc size a len cap M lo hi mx (fun a n c => K0 (.sl a n c) M) = some (v, M1)) : M1 = M := by
  have h1 : (slcK fc size a len cap M lo hi mx (fun a n c => K0 (.sl a n c) M)).bind (fun p => some (p.1, M)) = slcK fc size a len cap M lo hi mx fun a n c => K0 (.sl a n c) M := by
    rw [slcK_bind]; rfl
  rw [h] at h1
  exact (Prod.mk.inj (Option.some.inj h1)).2.symm
theorem noneff_same {a : AOp} (h : isEff a = false) {M M1 : Mem} (he : evalOp fc call meth a fr M K0 = some (v, M1)) : M1 = M := by
  cases hm : memFree a with
  | true => exact (free_same hm he).1
  | false =>
    cases hl : isLoad a with
    | true => exact (load_same hl he).1
    | false =>
      cases a <;> simp [memFree, isEff, isLoad] at hm h hl
      case look t e zero two x k =>
        simp only [evalOp, ev_eq, bind_some', cond_none] at he
        obtain ⟨_, _, _, _, r, _, _, q, _, he⟩ := he
        replace he := cast_some he
        cases two <;> simp only [cond_true, cond_false, K0] at he <;> exact (Prod.mk.inj (Option.some.inj he)).2.symm
      case callR f x t =>
        simp only [evalOp, ev_eq, bind_some'] at he
        obtain ⟨_, _, he⟩ := he
        obtain ⟨_, _, _, _, _, _, _, _, _, _, _, he⟩ := readK_some he
        replace he := castRs_some he
        simp only [cond_none] at he
        exact (Prod.mk.inj (Option.some.inj he.2)).2.symm
      rotate_left
      · simp only [evalOp, ev_eq, evO_eq, bind_some'] at he
        obtain ⟨p, _, _, _, _, _, _, _, he⟩ := he
        cases p <;> try (cases he; done)
        exact slcK_mem he
      rename_i neg t x y
      simp only [evalOp, ev_eq, bind_some'] at he
      obtain ⟨p, _, q, _, he⟩ := he
      cases t <;> simp [memFree, isEff, isLoad] at hm
      simp only [eqv, bind_some', fB_eq, K0, Option.some.injEq, Prod.mk.injEq] at he
      obtain ⟨_, _, _, _, _, _, _, rfl⟩ := he
      rfl
end
def DL.toGL : DL → GL
  | .nil => .nil
  | .op d o r => .op d o r.toGL
  | .grp t w b r => .grp t w b.toGL r.toGL
def DL.flat : DL → List AOp
  | .nil => []
  | .op _ o r => o :: r.flat
  | .grp _ _ b r => b.flat ++ r.flat
section
variable (P : Program) (ops : Array Oper) (fc : Bool) (call : CallF) (meth : MethF)
inductive Run : Nat → List Nat → Fr → Mem → List TRec → Nat → List Nat → Fr → Mem → Prop
  | nil (i : Nat) (sk : List Nat) (fr : Fr) (M : Mem) : Run i sk fr M [] i sk fr M
  | exec {i : Nat} {sk : List Nat} {fr : Fr} {M : Mem} {o : Oper} {a : AOp} {v : AVal} {M1 : Mem} {T : List TRec} {i' : Nat} {sk' : List Nat} {fr' : Fr} {M' : Mem} (ho : ops[i]? = some o) (hok : okOp P o.op a = true)
      (he : evalOp fc call meth a fr M K0 = some (v, M1)) (hg : o.guard = none ∨ ∃ j w t, o.guard = some (j, w) ∧ (ops[j]?).bind (·.dst) = some t ∧ fr.g t = some (.bool w))
      (h : Run (i + 1) sk (fr.put o.dst v) M1 T i' sk' fr' M') : Run i sk fr M (⟨fr, M, a, some v⟩ :: T) i' sk' fr' M'
  | skip {i : Nat} {sk : List Nat} {fr : Fr} {M : Mem} {o : Oper} {a : AOp} {T : List TRec} {i' : Nat} {sk' : List Nat} {fr' : Fr} {M' : Mem} (ho : ops[i]? = some o) (hok : okOp P o.op a = true)
      (hg : ∃ j w, o.guard = some (j, w) ∧ ((∃ t x, (ops[j]?).bind (·.dst) = some t ∧ fr.g t = some (.bool x) ∧ x ≠ w) ∨ j ∈ sk))
      (h : Run (i + 1) (i :: sk) (fr.killO o.dst) M T i' sk' fr' M') : Run i sk fr M (⟨fr, M, a, none⟩ :: T) i' sk' fr' M'
end
section
variable {P : Program} {ops : Array Oper} {fc : Bool} {call : CallF} {meth : MethF}
theorem Run.trans {i : Nat} {sk : List Nat} {fr : Fr} {M : Mem} {T : List TRec} {i' : Nat} {sk' : List Nat} {fr' : Fr} {M' : Mem} (h : Run P ops fc call meth i sk fr M T i' sk' fr' M') :
    ∀ {T2 : List TRec} {i2 : Nat} {sk2 : List Nat} {fr2 : Fr} {M2 : Mem}, Run P ops fc call meth i' sk' fr' M' T2 i2 sk2 fr2 M2 → Run P ops fc call meth i sk fr M (T ++ T2) i2 sk2 fr2 M2 := by
  induction h with
  | nil => intro T2 i2 sk2 fr2 M2 h; exact h
  | exec ho hok he hg _ ih => intro T2 i2 sk2 fr2 M2 h; exact .exec ho hok he hg (ih h)
  | skip ho hok hg _ ih => intro T2 i2 sk2 fr2 M2 h; exact .skip ho hok hg (ih h)
theorem Run.sk_mono {i : Nat} {sk : List Nat} {fr : Fr} {M : Mem} {T : List TRec} {i' : Nat} {sk' : List Nat} {fr' : Fr} {M' : Mem} (h : Run P ops fc call meth i sk fr M T i' sk' fr' M') : ∀ k ∈ sk, k ∈ sk' := by
  induction h with
  | nil => exact fun _ h => h
  | exec _ _ _ _ _ ih => exact ih
  | skip _ _ _ _ ih => exact fun k hk => ih k (by simp [hk])
def CtxF (ops : Array Oper) (fr : Fr) (cs : List Ctx) : Prop := ∀ c ∈ cs, (ops[c.j]?).bind (·.dst) = some c.t ∧ fr.g c.t = some (.bool c.w)
theorem g_s_ne {fr : Fr} {t u : Tmp} {v : Option AVal} (h : t ≠ u) : (fr.s t v).g u = fr.g u := by
  rw [Fr.g_s, if_neg (fun e => h e.1.symm)]
theorem g_killO_ne {fr : Fr} {d : Option Tmp} {u : Tmp} (h : d ≠ some u) : (fr.killO d).g u = fr.g u := by
  cases d with
  | none => rfl
  | some t => exact g_s_ne (fun e => h (by rw [e]))
theorem g_put_ne {fr : Fr} {d : Option Tmp} {v : AVal} {u : Tmp} (h : d ≠ some u) : (fr.put d v).g u = fr.g u := by
  cases d with
  | none => rfl
  | some t => exact g_s_ne (fun e => h (by rw [e]))
theorem s_same {fr : Fr} {t : Tmp} {v : AVal} (h : fr.g t = some v) : fr.s t (some v) = fr := by
  rw [Fr.s_eq]
  rw [Fr.g_eq] at h
  have : fr[t]? = some (some v) := by
    cases hx : fr[t]? with
    | none => simp [hx] at h
    | some y => simp [hx] at h; rw [h]
  apply List.ext_getElem?
  intro j
  rw [List.getElem?_set]
  by_cases e : t = j
  · subst e
    have hlt := (List.getElem?_eq_some_iff.1 this).1
    rw [List.getElem?_eq_getElem hlt] at this
    have := Option.some.inj this
    simp [hlt, this]
  · simp [e]
theorem skip_run : ∀ (b : DL) {i i' : Nat} {c : Ctx} {cs : List Ctx} {lo lo0 : Nat} {sk : List Nat} {fr : Fr} {M : Mem} (acc : List TRec), okGL P ops b.toGL i (c :: cs) lo = some i' → lo0 ≤ lo → lo0 ≤ i →
    (((ops[c.j]?).bind (·.dst) = some c.t ∧ ∃ x, fr.g c.t = some (.bool x) ∧ x ≠ c.w) ∨ c.j ∈ sk) → (∀ k, lo0 ≤ k → k < i → k ∈ sk) →
    ∃ T sk' fr', Run P ops fc call meth i sk fr M T i' sk' fr' M ∧ DL.skip M b fr acc = (fr', T.reverse ++ acc) ∧ (∀ x ∈ c :: cs, fr'.g x.t = fr.g x.t) ∧
      (∀ k, lo0 ≤ k → k < i' → k ∈ sk') ∧ T.map (·.o) = b.flat
  | .nil, i, i', c, cs, lo, lo0, sk, fr, M, acc, h, _, _, hc, hk => by
    obtain rfl := Option.some.inj h
    exact ⟨[], sk, fr, .nil _ _ _ _, rfl, fun _ _ => rfl, hk, rfl⟩
  | .op d a r, i, i', c, cs, lo, lo0, sk, fr, M, acc, h, hlo, hi, hc, hk => by
    simp only [DL.toGL, okGL] at h
    split at h
    rotate_left
    · cases h
    rename_i o ho
    simp only [cond_none, Bool.and_eq_true] at h
    obtain ⟨⟨⟨⟨h1, h2⟩, h3⟩, h4⟩, h⟩ := h
    have h1 := of_decide_eq_true h1
    subst h1
    have hne : ∀ x ∈ c :: cs, o.dst ≠ some x.t := fun x hx => of_decide_eq_true (List.all_eq_true.1 h4 x hx)
    have hg : ∃ j w, o.guard = some (j, w) ∧ ((∃ t x, (ops[j]?).bind (·.dst) = some t ∧ fr.g t = some (.bool x) ∧ x ≠ w) ∨ j ∈ sk) := by
      simp only [guardIs] at h2
      split at h2
      · rename_i j w hgd
        simp only [Bool.and_eq_true] at h2
        have e1 := beq_t h2.1
        have e2 := eq_of_beq h2.2
        subst e1 e2
        refine ⟨_, _, hgd, ?_⟩
        rcases hc with ⟨hc1, x, hc2, hc3⟩ | hc
        · exact .inl ⟨_, x, hc1, hc2, hc3⟩
        · exact .inr hc
      · cases h2
    obtain ⟨T, sk', fr', q1, q2, q3, q4, q6⟩ := skip_run r (lo0 := lo0) (sk := i :: sk) (fr := fr.killO o.dst) (M := M) (⟨fr, M, a, none⟩ :: acc) h hlo (by omega)
      (by
        rcases hc with ⟨hc1, x, hc2, hc3⟩ | hc
        · exact .inl ⟨hc1, x, by rw [g_killO_ne (hne c (by simp))]; exact hc2, hc3⟩
        · exact .inr (by simp [hc]))
      (fun k k1 k2 => by
        by_cases e : k = i
        · simp [e]
        · simp [hk k k1 (by omega)])
    exact ⟨_, sk', fr', .skip ho h3 hg q1, by simp only [DL.skip, q2]; simp, fun x hx => by rw [q3 x hx, g_killO_ne (hne x hx)], q4, by simp [DL.flat, q6]⟩
  | .grp t ww b r, i, i', c, cs, lo, lo0, sk, fr, M, acc, h, hlo, hi, hc, hk => by
    simp only [DL.toGL, okGL] at h
    split at h
    rotate_left
    · cases h
    rename_i j w' hgd
    simp only [cond_none, Bool.and_eq_true] at h
    obtain ⟨⟨⟨⟨h1, h2⟩, h3⟩, h4⟩, h⟩ := h
    obtain ⟨i2, hb, hr⟩ := bind_some'.1 h
    have h2 := Mem.blt_iff.1 h2
    have h3 := Nat.le_of_ble_eq_true h3
    have l1 := okGL_le hb
    have hjs := hk j (by omega) h2
    obtain ⟨T1, sk1, fr1, q1, q2, q3, q4, q6⟩ := skip_run b (c := ⟨j, ww, t⟩) (cs := c :: cs) (lo0 := lo0) (sk := sk) (fr := fr) (M := M) acc hb (by omega) hi (.inr hjs) hk
    have hc1 : ((ops[c.j]?).bind (·.dst) = some c.t ∧ ∃ x, fr1.g c.t = some (.bool x) ∧ x ≠ c.w) ∨ c.j ∈ sk1 := by
      rcases hc with ⟨a1, x, a2, a3⟩ | hc
      · exact .inl ⟨a1, x, by rw [q3 c (by simp)]; exact a2, a3⟩
      · exact .inr (q1.sk_mono _ hc)
    obtain ⟨T2, sk2, fr2, p1, p2, p3, p4, p6⟩ := skip_run r (lo0 := lo0) (sk := sk1) (fr := fr1) (M := M) (T1.reverse ++ acc) hr hlo (by omega) hc1 q4
    exact ⟨T1 ++ T2, sk2, fr2, q1.trans p1, by simp only [DL.skip, q2, p2]; simp, fun x hx => by rw [p3 x hx, q3 x (by simp [List.mem_cons.1 hx])], p4, by simp [DL.flat, q6, p6]⟩
theorem dl_run : ∀ (g : DL) {i i' : Nat} {cs : List Ctx} {lo : Nat} {sk : List Nat} {fr : Fr} {M : Mem} {acc : List TRec} {β : Type} {K : Fr → Mem → List TRec → Option β} {r : β}, okGL P ops g.toGL i cs lo = some i' →
    evalDL fc call meth g fr M acc K = some r → CtxF ops fr cs →
    ∃ T sk' fr' M', Run P ops fc call meth i sk fr M T i' sk' fr' M' ∧ K fr' M' (T.reverse ++ acc) = some r ∧ (∀ x ∈ cs, fr'.g x.t = fr.g x.t) ∧ T.map (·.o) = g.flat
  | .nil, i, i', cs, lo, sk, fr, M, acc, β, K, r, h, he, hcs => by
    obtain rfl := Option.some.inj h
    exact ⟨[], sk, fr, M, .nil _ _ _ _, he, fun _ _ => rfl, rfl⟩
  | .op d a g, i, i', cs, lo, sk, fr, M, acc, β, K, r, h, he, hcs => by
    simp only [DL.toGL, okGL] at h
    split at h
    rotate_left
    · cases h
    rename_i o ho
    simp only [cond_none, Bool.and_eq_true] at h
    obtain ⟨⟨⟨⟨h1, h2⟩, h3⟩, h4⟩, h⟩ := h
    have h1 := of_decide_eq_true h1
    subst h1
    have hne : ∀ x ∈ cs, o.dst ≠ some x.t := fun x hx => of_decide_eq_true (List.all_eq_true.1 h4 x hx)
    simp only [evalDL, fM_eq] at he
    obtain ⟨v, M1, he1, he2⟩ := evalOp_split he
    have hg : o.guard = none ∨ ∃ j w t, o.guard = some (j, w) ∧ (ops[j]?).bind (·.dst) = some t ∧ fr.g t = some (.bool w) := by
      cases cs with
      | nil => left; simpa [guardIs] using h2
      | cons c cs =>
        simp only [guardIs] at h2
        split at h2
        · rename_i j w hgd
          simp only [Bool.and_eq_true] at h2
          have e1 := beq_t h2.1
          have e2 := eq_of_beq h2.2
          subst e1 e2
          exact .inr ⟨_, _, c.t, hgd, hcs c (by simp)⟩
        · cases h2
    obtain ⟨T, sk', fr', M', q1, q2, q3, q4⟩ := dl_run g (sk := sk) h he2 (fun x hx => ⟨(hcs x hx).1, by rw [g_put_ne (hne x hx)]; exact (hcs x hx).2⟩)
    exact ⟨_, sk', fr', M', .exec ho h3 he1 hg q1, by simpa using q2, fun x hx => by rw [q3 x hx, g_put_ne (hne x hx)], by simp [DL.flat, q4]⟩
  | .grp t ww b g, i, i', cs, lo, sk, fr, M, acc, β, K, r, h, he, hcs => by
    simp only [DL.toGL, okGL] at h
    split at h
    rotate_left
    · cases h
    rename_i j w' hgd
    simp only [cond_none, Bool.and_eq_true] at h
    obtain ⟨⟨⟨⟨h1, h2⟩, h3⟩, h4⟩, h⟩ := h
    obtain ⟨i2, hb, hg⟩ := bind_some'.1 h
    have h2 := Mem.blt_iff.1 h2
    have h4 := of_decide_eq_true h4
    have l1 := okGL_le hb
    simp only [evalDL, bind_some'] at he
    obtain ⟨vt, hvt, c, hc, he⟩ := he
    obtain rfl := bool?_some hc
    have hsame : ∀ x : Bool, x = c → fr.s t (some (.bool x)) = fr := by rintro x rfl; exact s_same hvt
    have hyes : c = ww → evalDL fc call meth b fr M acc (fun fr M acc => evalDL fc call meth g fr M acc K) = some r →
        ∃ T sk' fr' M', Run P ops fc call meth i sk fr M T i' sk' fr' M' ∧ K fr' M' (T.reverse ++ acc) = some r ∧ (∀ x ∈ cs, fr'.g x.t = fr.g x.t) ∧ T.map (·.o) = (DL.grp t ww b g).flat := by
      intro e he
      obtain ⟨T1, sk1, fr1, M1, q1, q2, q3, q4⟩ := dl_run b (sk := sk) hb he (fun x hx => by
        rcases List.mem_cons.1 hx with rfl | hx
        · exact ⟨h4, by rw [hvt, e]⟩
        · exact hcs x hx)
      obtain ⟨T2, sk2, fr2, M2, p1, p2, p3, p4⟩ := dl_run g (sk := sk1) hg q2 (fun x hx => ⟨(hcs x hx).1, by rw [q3 x (by simp [hx])]; exact (hcs x hx).2⟩)
      exact ⟨T1 ++ T2, sk2, fr2, M2, q1.trans p1, by simpa using p2, fun x hx => by rw [p3 x hx, q3 x (by simp [hx])], by simp [DL.flat, q4, p4]⟩
    have hno : c ≠ ww → (match DL.skip M b fr acc with | (fr, acc) => evalDL fc call meth g fr M acc K) = some r →
        ∃ T sk' fr' M', Run P ops fc call meth i sk fr M T i' sk' fr' M' ∧ K fr' M' (T.reverse ++ acc) = some r ∧ (∀ x ∈ cs, fr'.g x.t = fr.g x.t) ∧ T.map (·.o) = (DL.grp t ww b g).flat := by
      intro e he
      obtain ⟨T1, sk1, fr1, q1, q2, q3, q4, q6⟩ := skip_run (fc := fc) (call := call) (meth := meth) b (c := ⟨j, ww, t⟩) (cs := cs) (lo0 := i) (sk := sk) (fr := fr) (M := M) acc hb (Nat.le_refl _) (Nat.le_refl _) (.inl ⟨h4, c, hvt, e⟩) (fun k a b => by omega)
      rw [q2] at he
      obtain ⟨T2, sk2, fr2, M2, p1, p2, p3, p4⟩ := dl_run g (sk := sk1) hg he (fun x hx => ⟨(hcs x hx).1, by rw [q3 x (by simp [hx])]; exact (hcs x hx).2⟩)
      exact ⟨T1 ++ T2, sk2, fr2, M2, q1.trans p1, by simpa using p2, fun x hx => by rw [p3 x hx, q3 x (by simp [hx])], by simp [DL.flat, q6, p4]⟩
    cases ww <;> cases c <;> simp only [cond_true, cond_false] at he
    · rw [hsame false rfl] at he; exact hyes rfl he
    · rw [hsame true rfl] at he; exact hno (by simp) he
    · rw [hsame false rfl] at he; exact hno (by simp) he
    · rw [hsame true rfl] at he; exact hyes rfl he
end
end Go.Abs
