import Derived.Test.YtjcakemgghfflaaXSnd7
import Derived.Test.YtjcakemgghfflaaXNat
set_option linter.unusedVariables false
set_option linter.unusedSimpArgs false
namespace Go.Abs
open Go.RowKit
structure Ctx where
  j : Nat
  w : Bool
  t : Tmp
def guardIs (g : Option (Nat × Bool)) : List Ctx → Bool
  | [] => g.isNone
  | c :: _ => match g with
    | some (j, w) => Nat.beq j c.j && (w == c.w)
    | none => false
def okGL (P : Program) (ops : Array Oper) : GL → Nat → List Ctx → Nat → Option Nat
  | .nil, i, _, _ => some i
  | .op d a r, i, cs, lo => match ops[i]? with
    | some o => cond (decide (o.dst = d) && guardIs o.guard cs && okOp P o.op a && cs.all fun c => decide (d ≠ some c.t)) (okGL P ops r (i + 1) cs lo) none
    | none => none
  | .grp t w b r, i, cs, lo => match (ops[i]?).bind (·.guard) with
    | some (j, w') => cond ((w' == w) && Nat.blt j i && Nat.ble lo j && decide ((ops[j]?).bind (·.dst) = some t)) ((okGL P ops b i (⟨j, w, t⟩ :: cs) i).bind fun i' => okGL P ops r i' cs lo) none
    | none => none
theorem okGL_le {P : Program} {ops : Array Oper} : ∀ {g : GL} {i : Nat} {cs : List Ctx} {lo i' : Nat}, okGL P ops g i cs lo = some i' → i ≤ i'
  | .nil, i, cs, lo, i', h => by obtain rfl := Option.some.inj h; exact Nat.le_refl _
  | .op d a r, i, cs, lo, i', h => by
    simp only [okGL] at h
    split at h
    · simp only [cond_none] at h
      have := okGL_le h.2
      omega
    · cases h
  | .grp t w b r, i, cs, lo, i', h => by
    simp only [okGL] at h
    split at h
    · simp only [cond_none, bind_some'] at h
      obtain ⟨_, i2, h1, h2⟩ := h
      have := okGL_le h1
      have := okGL_le h2
      omega
    · cases h
def from_ (i i' : Nat) : List Nat := List.range' i (i' - i)
theorem from_self (i : Nat) : from_ i i = [] := by simp [from_]
theorem from_cons {i i' : Nat} (h : i < i') : from_ i i' = i :: from_ (i + 1) i' := by
  unfold from_
  obtain ⟨d, hd⟩ : ∃ d, i' - i = d + 1 := ⟨i' - i - 1, by omega⟩
  rw [hd, List.range'_succ, show i' - (i + 1) = d from by omega]
theorem from_append {i m i' : Nat} (h1 : i ≤ m) (h2 : m ≤ i') : from_ i i' = from_ i m ++ from_ m i' := by
  unfold from_
  rw [show i' - i = (m - i) + (i' - m) from by omega, ← List.range'_append_1]
  congr 2
  omega
section
variable {P : Program} {σ σ' : Env} {B : Nat → Prop} {w0 w w' : World} {M M' : Mem} {fr : Fr} {act : Act} {Q : Exit → Act → World → Prop} {ops : Array Oper}
variable {fc : Bool} {call : CallF} {meth : MethF}
def CtxOk (ops : Array Oper) (tmps : Array Value) (cs : List Ctx) : Prop := ∀ c ∈ cs, (ops[c.j]?).bind (·.dst) = some c.t ∧ tmps[c.t]? = some (.bool c.w)
theorem yielded_of {tmps : Array Value} {c : Ctx} (h : (ops[c.j]?).bind (·.dst) = some c.t ∧ tmps[c.t]? = some (.bool c.w)) : yielded ops tmps c.j = some c.w := by
  unfold yielded; rw [h.1]; simp [h.2]
theorem wanted_of {o : Oper} {tmps : Array Value} {cs : List Ctx} (hg : guardIs o.guard cs = true) (h : CtxOk ops tmps cs) : Region.wanted o (yielded ops tmps) = true := by
  unfold Region.wanted
  cases cs with
  | nil => simp only [guardIs, Option.isNone_iff_eq_none] at hg; simp [hg]
  | cons c cs =>
    simp only [guardIs] at hg
    split at hg
    · rename_i j w hgd
      simp only [Bool.and_eq_true] at hg
      have h1 := beq_t hg.1
      have h2 := eq_of_beq hg.2
      subst h1 h2
      rw [hgd]
      simp only [yielded_of (h c (by simp)), beq_self_eq_true]
    · cases hg
theorem FrR.known {n : Nat} {tmps : Array Value} (h : FrR σ n fr tmps) {t : Tmp} {v : AVal} (hv : ok n v) (ht : tmps.getD t undef = conc σ v) : FrR σ n (fr.s t (some v)) tmps := by
  refine ⟨by rw [Fr.length_s, h.len], fun u x hx => ?_⟩
  rw [Fr.g_s] at hx
  split at hx
  · rename_i hu
    obtain rfl := Option.some.inj hx
    obtain rfl := hu.1
    exact ⟨hv, ht⟩
  · exact h.val u x hx
theorem FrR.bool {n : Nat} {tmps : Array Value} (h : FrR σ n fr tmps) {t : Tmp} {c : Bool} (hv : fr.g t = some (.bool c)) : tmps[t]? = some (.bool c) := by
  have := (h.val t _ hv).2
  simp only [conc] at this
  rw [Array.getD_eq_getD_getElem?] at this
  cases hx : tmps[t]? with
  | none => rw [hx] at this; simp [undef] at this
  | some x => rw [hx] at this; simpa using this
theorem CtxOk.put {tmps : Array Value} {cs : List Ctx} (h : CtxOk ops tmps cs) {d : Option Tmp} (hd : (cs.all fun c => decide (d ≠ some c.t)) = true) (v : Value) (df : List Deferred) : CtxOk ops ((⟨tmps, df⟩ : Act).put d v).tmps cs := by
  intro c hc
  refine ⟨(h c hc).1, ?_⟩
  have hne := of_decide_eq_true (List.all_eq_true.1 hd c hc)
  cases d with
  | none => exact (h c hc).2
  | some t =>
    have : t ≠ c.t := fun e => hne (by rw [e])
    simp only [Act.put]
    rw [Array.getElem?_setIfInBounds_ne this]
    exact (h c hc).2
def Und (ops : Array Oper) (a b : Array Value) : Prop := ∀ k, yielded ops b k = yielded ops a k ∨ yielded ops b k = none
theorem Und.refl (a : Array Value) : Und ops a a := fun _ => .inl rfl
theorem Und.trans {a b c : Array Value} (h : Und ops a b) (h' : Und ops b c) : Und ops a c := fun k => by
  rcases h' k with e | e
  · rw [e]; exact h k
  · exact .inr e
theorem Und.none {a b : Array Value} (h : Und ops a b) {k : Nat} (hk : yielded ops a k = none) : yielded ops b k = none := by
  rcases h k with e | e
  · rw [e, hk]
  · exact e
theorem Und.ne {a b : Array Value} (h : Und ops a b) {k : Nat} {w : Bool} (hk : yielded ops a k ≠ some w) : yielded ops b k ≠ some w := by
  rcases h k with e | e
  · rw [e]; exact hk
  · rw [e]; simp
def boolOf : Option Value → Option Bool
  | some (.bool b) => some b
  | _ => Option.none
theorem yielded_eq (tmps : Array Value) (k : Nat) : yielded ops tmps k = ((ops[k]?).bind (·.dst)).bind fun t => boolOf tmps[t]? := by
  unfold yielded
  cases (ops[k]?).bind (·.dst) with
  | none => rfl
  | some t =>
    show (match tmps[t]? with | some (.bool b) => some b | _ => Option.none) = boolOf tmps[t]?
    cases tmps[t]? with
    | none => rfl
    | some v => cases v <;> rfl
theorem boolOf_put (a : Array Value) (t : Tmp) : boolOf (a.setIfInBounds t undef)[t]? = Option.none := by
  by_cases hlt' : t < a.size
  · simp [hlt', undef, boolOf]
  · rw [Array.getElem?_eq_none (by simpa using hlt')]; rfl
theorem Und.put (act : Act) (d : Option Tmp) : Und ops act.tmps (act.put d undef).tmps := by
  intro k
  cases d with
  | none => exact .inl rfl
  | some t' =>
    rw [yielded_eq, yielded_eq]
    cases (ops[k]?).bind (·.dst) with
    | none => exact .inl rfl
    | some t =>
      show boolOf (act.tmps.setIfInBounds t' undef)[t]? = boolOf act.tmps[t]? ∨ boolOf (act.tmps.setIfInBounds t' undef)[t]? = Option.none
      by_cases e : t' = t
      · subst e
        exact .inr (boolOf_put _ _)
      · left
        rw [Array.getElem?_setIfInBounds_ne e]
theorem yielded_put_self (act : Act) {i : Nat} {o : Oper} (ho : ops[i]? = some o) : yielded ops (act.put o.dst undef).tmps i = Option.none := by
  rw [yielded_eq, ho]
  cases hd : o.dst with
  | none => simp [hd]
  | some t' =>
    simp only [Option.bind_some, hd]
    exact boolOf_put _ _
theorem FrR.killO {n : Nat} {act : Act} (h : FrR σ n fr act.tmps) (d : Option Tmp) : FrR σ n (fr.killO d) (act.put d undef).tmps := by
  cases d with
  | none => exact h
  | some t => exact h.drop_any t undef
theorem skip_sound : ∀ (g : GL) {i i' : Nat} {c : Ctx} {sk cs : List Ctx} {lo lo0 : Nat} {L : List Nat} {fr : Fr} {n : Nat} {act : Act} {w : World}, okGL P ops g i (c :: (sk ++ cs)) lo = some i' → lo0 ≤ lo →
    yielded ops act.tmps c.j ≠ some c.w → (∀ k, lo0 ≤ k → k < i → yielded ops act.tmps k = none) → lo0 ≤ i → FrR σ n fr act.tmps → CtxOk ops act.tmps cs →
    (∀ act', FrR σ n (GL.kill fr g) act'.tmps → act'.defers = act.defers → Und ops act.tmps act'.tmps → (∀ k, lo0 ≤ k → k < i' → yielded ops act'.tmps k = none) → CtxOk ops act'.tmps cs → wpOps P ops Q L act' w) →
    wpOps P ops Q (from_ i i' ++ L) act w
  | .nil, i, i', c, sk, cs, lo, lo0, L, fr, n, act, w, h, _, hc, hk, _, hf, hcs, hfin => by
    obtain rfl := Option.some.inj h
    rw [from_self]
    exact hfin act hf rfl (Und.refl _) hk hcs
  | .op d a r, i, i', c, sk, cs, lo, lo0, L, fr, n, act, w, h, hlo, hc, hk, hi, hf, hcs, hfin => by
    simp only [okGL] at h
    split at h
    rotate_left
    · cases h
    rename_i o ho
    simp only [cond_none, Bool.and_eq_true] at h
    obtain ⟨⟨⟨⟨h1, h2⟩, h3⟩, h4⟩, h⟩ := h
    have h1 := of_decide_eq_true h1
    subst h1
    have hlt := okGL_le h
    have hnw : Region.wanted o (yielded ops act.tmps) = false := by
      unfold Region.wanted
      simp only [guardIs] at h2
      split at h2
      · rename_i j w hgd
        simp only [Bool.and_eq_true] at h2
        have e1 := beq_t h2.1
        have e2 := eq_of_beq h2.2
        subst e1 e2
        rw [hgd]
        exact beq_eq_false_iff_ne.2 hc
      · cases h2
    rw [from_cons (by omega), List.cons_append]
    simp only [wpOps, ho, hnw, Bool.false_eq_true, if_false]
    have hu := Und.put (ops := ops) act o.dst
    have h4' : (cs.all fun c => decide (o.dst ≠ some c.t)) = true := List.all_eq_true.2 fun x hx => List.all_eq_true.1 h4 x (by simp [hx])
    refine skip_sound r h hlo (hu.ne hc) ?_ (by omega) (hf.killO o.dst) ?_ (fun act' f1 f2 f3 f4 f5 => hfin act' f1 ?_ (hu.trans f3) f4 f5)
    · intro k hk1 hk2
      by_cases e : k = i
      · subst e; exact yielded_put_self act ho
      · exact hu.none (hk k hk1 (by omega))
    · obtain ⟨tm, df⟩ := act
      exact CtxOk.put hcs h4' undef df
    · rw [f2]; cases o.dst <;> rfl
  | .grp t ww b r, i, i', c, sk, cs, lo, lo0, L, fr, n, act, w, h, hlo, hc, hk, hi, hf, hcs, hfin => by
    simp only [okGL] at h
    split at h
    rotate_left
    · cases h
    rename_i j w' hgd
    simp only [cond_none, Bool.and_eq_true] at h
    obtain ⟨⟨⟨⟨h1, h2⟩, h3⟩, h4⟩, h⟩ := h
    obtain ⟨i2, hb, hr⟩ := bind_some'.1 h
    have h2 := Mem.blt_iff.1 h2
    have h3 := Nat.le_of_ble_eq_true h3
    have l1 := okGL_le hb
    have l2 := okGL_le hr
    have hyj := hk j (by omega) h2
    rw [from_append l1 l2, List.append_assoc]
    refine skip_sound b (c := ⟨j, ww, t⟩) (sk := c :: sk) (cs := cs) (lo0 := lo0) (fr := fr) (n := n) hb (by omega) (by rw [hyj]; simp) hk hi hf hcs ?_
    intro act' f1 f2 f3 f4 f5
    refine skip_sound r (lo0 := lo0) hr hlo (f3.ne hc) f4 (by omega) f1 f5 ?_
    intro act'' g1 g2 g3 g4 g5
    exact hfin act'' g1 (g2.trans f2) (f3.trans g3) g4 g5
theorem gl_sound (hcall : CallOk P call) (hmeth : MethOk P meth) : ∀ (g : GL) {i i' : Nat} {cs : List Ctx} {lo : Nat} {L : List Nat} {σ : Env} {M : Mem} {w : World} {fr : Fr} {act : Act} {K : Fr → Mem → Option (AVal × Mem)} {r : AVal × Mem},
    okGL P ops g i cs lo = some i' → evalGL fc call meth g fr M K = some r → Rep σ B w0 M w → FrR σ M.n fr act.tmps → CtxOk ops act.tmps cs →
    (∀ σ' M' w' fr' act', K fr' M' = some r → Rep σ' B w0 M' w' → FrR σ' M'.n fr' act'.tmps → act'.defers = act.defers → Env.ext M.n σ σ' → M.n ≤ M'.n → CtxOk ops act'.tmps cs → wpOps P ops Q L act' w') →
    wpOps P ops Q (from_ i i' ++ L) act w
  | .nil, i, i', cs, lo, L, σ, M, w, fr, act, K, r, h, he, hr, hf, hcs, hfin => by
    obtain rfl := Option.some.inj h
    rw [from_self]
    exact hfin σ M w fr act he hr hf rfl (Env.ext_refl _ _) (Nat.le_refl _) hcs
  | .op d a g, i, i', cs, lo, L, σ, M, w, fr, act, K, r, h, he, hr, hf, hcs, hfin => by
    simp only [okGL] at h
    split at h
    rotate_left
    · cases h
    rename_i o ho
    simp only [cond_none, Bool.and_eq_true] at h
    obtain ⟨⟨⟨⟨h1, h2⟩, h3⟩, h4⟩, h⟩ := h
    have h1 := of_decide_eq_true h1
    subst h1
    have hlt := okGL_le h
    rw [from_cons (by omega), List.cons_append]
    simp only [wpOps, ho, wanted_of h2 hcs, if_true]
    left
    simp only [evalGL, fM_eq] at he
    obtain ⟨v, M1, he1, he2⟩ := evalOp_split he
    refine op_sound hcall hmeth hr hf h3 he1 ?_
    intro σ' w' hr' hx hn hok
    refine gl_sound hcall hmeth g h he2 hr' ?_ ?_ ?_
    · cases o.dst with
      | none => exact hf.ext hx hn
      | some t => exact (hf.ext hx hn).put t v hok
    · obtain ⟨tm, df⟩ := act
      exact CtxOk.put hcs h4 _ df
    · intro σ'' M'' w'' fr'' act'' k1 k2 k3 k4 k5 k6 k7
      exact hfin σ'' M'' w'' fr'' act'' k1 k2 k3 (by rw [k4]; cases o.dst <;> rfl) (hx.trans k5 hn) (Nat.le_trans hn k6) k7
  | .grp t ww b g, i, i', cs, lo, L, σ, M, w, fr, act, K, r, h, he, hr, hf, hcs, hfin => by
    simp only [okGL] at h
    split at h
    rotate_left
    · cases h
    rename_i j w' hgd
    simp only [cond_none, Bool.and_eq_true] at h
    obtain ⟨⟨⟨⟨h1, h2⟩, h3⟩, h4⟩, h⟩ := h
    obtain ⟨i2, hb, hg⟩ := bind_some'.1 h
    have h2 := Mem.blt_iff.1 h2
    have h3 := Nat.le_of_ble_eq_true h3
    have h4 := of_decide_eq_true h4
    have l1 := okGL_le hb
    have l2 := okGL_le hg
    simp only [evalGL, bind_some'] at he
    obtain ⟨vt, hvt, c, hc, he⟩ := he
    obtain rfl := bool?_some hc
    have htc := hf.bool hvt
    have hknown : ∀ x : Bool, x = c → FrR σ M.n (fr.s t (some (.bool x))) act.tmps := by
      rintro x rfl
      exact hf.known (by simp [ok]) (hf.val t _ hvt).2
    rw [from_append l1 l2, List.append_assoc]
    have hyes : c = ww → evalGL fc call meth b (fr.s t (some (.bool c))) M (fun fr M => evalGL fc call meth g fr M K) = some r → wpOps P ops Q (from_ i i2 ++ (from_ i2 i' ++ L)) act w := by
      intro e he
      refine gl_sound hcall hmeth b hb he hr (hknown c rfl) ?_ ?_
      · intro x hx
        rcases List.mem_cons.1 hx with rfl | hx
        · exact ⟨h4, by rw [htc, e]⟩
        · exact hcs x hx
      · intro σ' M' w' fr' act' k1 k2 k3 k4 k5 k6 k7
        refine gl_sound hcall hmeth g hg k1 k2 k3 (fun x hx => k7 x (by simp [hx])) ?_
        intro σ'' M'' w'' fr'' act'' q1 q2 q3 q4 q5 q6 q7
        exact hfin σ'' M'' w'' fr'' act'' q1 q2 q3 (q4.trans k4) (k5.trans q5 k6) (Nat.le_trans k6 q6) q7
    have hno : c ≠ ww → evalGL fc call meth g (GL.kill (fr.s t (some (.bool c))) b) M K = some r → wpOps P ops Q (from_ i i2 ++ (from_ i2 i' ++ L)) act w := by
      intro e he
      have hy : yielded ops act.tmps j ≠ some ww := by
        unfold yielded; rw [h4]; simp [htc, e]
      refine skip_sound b (c := ⟨j, ww, t⟩) (sk := []) (cs := cs) (lo0 := i) (fr := fr.s t (some (.bool c))) (n := M.n) (σ := σ) hb (Nat.le_refl _) hy (fun k a b => by omega) (Nat.le_refl _) (hknown c rfl) hcs ?_
      intro act' f1 f2 f3 f4 f5
      refine gl_sound hcall hmeth g hg he hr f1 f5 ?_
      intro σ'' M'' w'' fr'' act'' q1 q2 q3 q4 q5 q6 q7
      exact hfin σ'' M'' w'' fr'' act'' q1 q2 q3 (q4.trans f2) q5 q6 q7
    cases ww <;> cases c <;> simp only [cond_true, cond_false] at he
    · exact hyes rfl he
    · exact hno (by simp) he
    · exact hno (by simp) he
    · exact hyes rfl he
end
end Go.Abs
