import Derived.Test.YtjcakemgghfflaaXDrw2
set_option linter.unusedVariables false
set_option linter.unusedSimpArgs false
namespace Go.Abs
open Go.RowKit
section
variable {P : Program} {ops : Array Oper} {fc : Bool} {call : CallF} {meth : MethF}
structure TF (P : Program) (ops : Array Oper) (fc : Bool) (call : CallF) (meth : MethF) (flat : List AOp) (T : List TRec) (fr0 frn : Fr) (M0 Mn : Mem) : Prop where
  len : T.length = ops.size
  f0 : fmT T frn 0 = fr0
  m0 : mmT T Mn 0 = M0
  step : ∀ k, k < ops.size → ∃ o a st, ops[k]? = some o ∧ flat[k]? = some a ∧ okOp P o.op a = true ∧ T[k]? = some ⟨fmT T frn k, mmT T Mn k, a, st⟩ ∧
    ((∃ v, st = some v ∧ evalOp fc call meth a (fmT T frn k) (mmT T Mn k) K0 = some (v, mmT T Mn (k + 1)) ∧ fmT T frn (k + 1) = (fmT T frn k).put o.dst v ∧
        (o.guard = none ∨ ∃ j w t, o.guard = some (j, w) ∧ dstOf ops j = some t ∧ (fmT T frn k).g t = some (.bool w))) ∨
      (st = none ∧ fmT T frn (k + 1) = (fmT T frn k).killO o.dst ∧ mmT T Mn (k + 1) = mmT T Mn k ∧
        ∃ j w, o.guard = some (j, w) ∧ ((∃ t x, dstOf ops j = some t ∧ (fmT T frn k).g t = some (.bool x) ∧ x ≠ w) ∨ ∃ R, T[j]? = some R ∧ R.st = none)))
theorem TF.of_run {fr0 : Fr} {M0 : Mem} {T : List TRec} {sk' : List Nat} {frn : Fr} {Mn : Mem} {flat : List AOp} (h : Run P ops fc call meth 0 [] fr0 M0 T ops.size sk' frn Mn) (hflat : T.map (·.o) = flat) : TF P ops fc call meth flat T fr0 frn M0 Mn := by
  obtain ⟨h1, h2, h3, h4⟩ := h.facts
  refine ⟨by omega, h2, h3, fun k hk => ?_⟩
  have hlt : k < T.length := by omega
  obtain ⟨o, a1, a2, a3⟩ := h4 k T[k] (List.getElem?_eq_getElem hlt)
  rw [Nat.zero_add] at a1
  have hfm : fmT T frn k = T[k].fr := by simp [fmT, hlt]
  have hmm : mmT T Mn k = T[k].M := by simp [mmT, hlt]
  refine ⟨o, T[k].o, T[k].st, a1, by rw [← hflat]; simp [hlt], a2, by rw [hfm, hmm]; simp [hlt], ?_⟩
  rw [hfm, hmm]
  rcases a3 with ⟨v, b1, b2, b3, b4⟩ | ⟨b1, b2, b3, j, w, b4, b5⟩
  · exact .inl ⟨v, b1, b2, b3, b4⟩
  · refine .inr ⟨b1, b2, b3, j, w, b4, ?_⟩
    rcases b5 with b5 | b5 | ⟨j', c1, c2, R', c3, c4⟩
    · exact .inl b5
    · simp at b5
    · rw [Nat.zero_add] at c1
      subst c1
      exact .inr ⟨R', c3, c4⟩
variable {flat : List AOp} {T : List TRec} {fr0 frn : Fr} {M0 Mn : Mem}
theorem TF.lastw (h : TF P ops fc call meth flat T fr0 frn M0 Mn) (t : Tmp) : ∀ i, i ≤ ops.size →
    (∃ k, k < i ∧ dstOf ops k = some t ∧ (∀ k', k < k' → k' < i → dstOf ops k' ≠ some t) ∧ (fmT T frn i).g t = (fmT T frn (k + 1)).g t) ∨ ((∀ k, k < i → dstOf ops k ≠ some t) ∧ (fmT T frn i).g t = fr0.g t)
  | 0, _ => .inr ⟨fun k hk => by omega, by rw [h.f0]⟩
  | i + 1, hi => by
    obtain ⟨o, a, st, h1, h2, h3, h4, h5⟩ := h.step i (by omega)
    by_cases hd : dstOf ops i = some t
    · exact .inl ⟨i, by omega, hd, fun k' a b => by omega, rfl⟩
    · have hd' : o.dst ≠ some t := by simpa [dstOf, h1] using hd
      have hg : (fmT T frn (i + 1)).g t = (fmT T frn i).g t := by
        rcases h5 with ⟨v, _, _, e, _⟩ | ⟨_, e, _, _⟩
        · rw [e, g_put_ne hd']
        · rw [e, g_killO_ne hd']
      rcases h.lastw t i (by omega) with ⟨k, k1, k2, k3, k4⟩ | ⟨k1, k2⟩
      · refine .inl ⟨k, by omega, k2, fun k' a b => ?_, by rw [hg, k4]⟩
        by_cases e : k' = i
        · rw [e]; exact hd
        · exact k3 k' a (by omega)
      · refine .inr ⟨fun k hk => ?_, by rw [hg, k2]⟩
        by_cases e : k = i
        · rw [e]; exact hd
        · exact k1 k (by omega)
def EffAt (flat : List AOp) (T : List TRec) (k : Nat) : Prop := effAt flat k = true ∧ ∃ R v, T[k]? = some R ∧ R.st = some v
theorem TF.mm_step (h : TF P ops fc call meth flat T fr0 frn M0 Mn) {k : Nat} (hk : k < ops.size) (he : ¬ EffAt flat T k) : mmT T Mn (k + 1) = mmT T Mn k := by
  obtain ⟨o, a, st, h1, h2, h3, h4, h5⟩ := h.step k hk
  rcases h5 with ⟨v, e0, e1, e2, _⟩ | ⟨_, _, e, _⟩
  · have : isEff a = false := by
      cases hE : isEff a with
      | false => rfl
      | true => exact absurd ⟨by simp [effAt, h2, hE], _, v, h4, e0⟩ he
    exact noneff_same this e1
  · exact e
theorem TF.mm_between (h : TF P ops fc call meth flat T fr0 frn M0 Mn) : ∀ (d a : Nat), a + d ≤ ops.size → (∀ k, a ≤ k → k < a + d → ¬ EffAt flat T k) → mmT T Mn (a + d) = mmT T Mn a
  | 0, a, _, _ => rfl
  | d + 1, a, hle, hno => by
    rw [show a + (d + 1) = (a + d) + 1 from by omega, h.mm_step (by omega) (hno (a + d) (by omega) (by omega))]
    exact h.mm_between d a (by omega) (fun k k1 k2 => hno k k1 (by omega))
theorem TF.mm_eq (h : TF P ops fc call meth flat T fr0 frn M0 Mn) {a b : Nat} (hab : a ≤ b) (hb : b ≤ ops.size) (hno : ∀ k, a ≤ k → k < b → ¬ EffAt flat T k) : mmT T Mn b = mmT T Mn a := by
  have := h.mm_between (b - a) a (by omega) (fun k k1 k2 => hno k k1 (by omega))
  rwa [show a + (b - a) = b from by omega] at this
structure Inv (P : Program) (ops : Array Oper) (flat : List AOp) (T : List TRec) (fr0 frn : Fr) (M0 Mn : Mem) (B : Nat → Prop) (w0 : World) (σ0 : Env) (df : List Deferred) (listed : Array Bool) (act : Act) (w : World) (σ : Env) (m : Nat) : Prop where
  size : listed.size = ops.size
  closed : ∀ j o, ops[j]? = some o → listed.getD j false = true → ∀ k ∈ direct o, listed.getD k false = true
  mle : m ≤ ops.size
  eff : ∀ k, EffAt flat T k → (listed.getD k false = true ↔ k < m)
  rep : Rep σ B w0 (mmT T Mn m) w
  ext : Env.ext M0.n σ0 σ
  nle : M0.n ≤ (mmT T Mn m).n
  dfs : act.defers = df
  len : fr0.length = act.tmps.size
  wr : ∀ t i, listed.getD i false = true → dstOf ops i = some t → (∀ j, listed.getD j false = true → dstOf ops j = some t → j ≤ i) →
    (∀ v, (fmT T frn (i + 1)).g t = some v → ok (mmT T Mn m).n v ∧ act.tmps.getD t undef = conc σ v) ∧ ((∃ R, T[i]? = some R ∧ R.st = none) → boolOf act.tmps[t]? = none)
  nw : ∀ t, (∀ j, listed.getD j false = true → dstOf ops j ≠ some t) → ∀ v, fr0.g t = some v → ok (mmT T Mn m).n v ∧ act.tmps.getD t undef = conc σ v
variable {B : Nat → Prop} {w0 w : World} {σ0 σ : Env} {df : List Deferred} {listed : Array Bool} {act : Act} {m : Nat}
theorem Inv.look (h : TF P ops fc call meth flat T fr0 frn M0 Mn) (hi : Inv P ops flat T fr0 frn M0 Mn B w0 σ0 df listed act w σ m) {i : Nat} (hin : i ≤ ops.size) {t : Tmp}
    (hlt : ∀ k, k < i → dstOf ops k = some t → listed.getD k false = true) (hge : ∀ k, i ≤ k → listed.getD k false = true → dstOf ops k ≠ some t) {v : AVal} (hv : (fmT T frn i).g t = some v) :
    ok (mmT T Mn m).n v ∧ act.tmps.getD t undef = conc σ v := by
  rcases h.lastw t i hin with ⟨k, k1, k2, k3, k4⟩ | ⟨k1, k2⟩
  · refine (hi.wr t k (hlt k k1 k2) k2 ?_).1 v (by rw [← k4]; exact hv)
    intro j hj hd
    by_cases hji : i ≤ j
    · exact absurd hd (hge j hji hj)
    · by_cases hjk : k < j
      · exact absurd hd (k3 j hjk (by omega))
      · omega
  · refine hi.nw t ?_ v (by rw [← k2]; exact hv)
    intro j hj hd
    by_cases hji : i ≤ j
    · exact hge j hji hj hd
    · exact k1 j (by omega) hd
variable {ps : List (Nat × Nat)}
structure DOk (ops : Array Oper) (flat : List AOp) (ps : List (Nat × Nat)) : Prop where
  flen : flat.length = ops.size
  edge : ∀ (j : Nat) (o : Oper), ops[j]? = some o → ∀ k ∈ direct o, k < j
  guard : ∀ (j : Nat) (o : Oper) (g : Nat) (w : Bool), ops[j]? = some o → o.guard = some (g, w) → g ∈ direct o ∧ ∀ k, k < ops.size → k = g ∨ dstOf ops k ≠ dstOf ops g
  pair : ∀ (i j : Nat), i < j → j < ops.size → pairB ops flat (befs ops.toList []) ps i j = true
theorem DOk.of (h : drwOk ops flat ps = true) : DOk ops flat ps := by
  unfold drwOk at h
  simp only [Bool.and_eq_true, List.all_eq_true, List.mem_range] at h
  obtain ⟨h1, h2⟩ := h
  refine ⟨beq_t h1, fun j o ho k hk => ?_, fun j o g w ho hg => ?_, fun i j hij hj => (h2 j hj).2 i hij⟩
  · have hj : j < ops.size := (Array.getElem?_eq_some_iff.1 ho).1
    have := (h2 j hj).1
    rw [ho] at this
    simp only [Bool.and_eq_true, List.all_eq_true] at this
    exact Mem.blt_iff.1 (this.1 k hk)
  · have hj : j < ops.size := (Array.getElem?_eq_some_iff.1 ho).1
    have := (h2 j hj).1
    rw [ho] at this
    simp only [Bool.and_eq_true, hg, List.all_eq_true, List.mem_range, List.contains_iff_mem, Bool.or_eq_true, decide_eq_true_eq] at this
    refine ⟨this.2.1, fun k hk => ?_⟩
    rcases this.2.2 k hk with e | e
    · exact .inl (beq_t e)
    · exact .inr e
theorem Inv.before (hd : DOk ops flat ps) (hcl : ∀ j o, ops[j]? = some o → listed.getD j false = true → ∀ k ∈ direct o, listed.getD k false = true) : ∀ (j : Nat) (o : Oper), ops[j]? = some o → (∀ k ∈ direct o, listed.getD k false = true) →
    ∀ i, i ∈ (befs ops.toList []).getD j [] → listed.getD i false = true := by
  intro j
  induction j using Nat.strongRecOn with
  | _ j ih =>
    intro o ho hall i hi
    have := (befs_spec ops.toList []).2.2 j o (by simpa using ho) i (by simpa using hi)
    rcases this with h | ⟨k, k1, k2, k3⟩
    · exact hall i h
    · have hkl := hall k k1
      have hkj : k < j := hd.edge j o ho k k1
      have hko : k < ops.size := by have := (Array.getElem?_eq_some_iff.1 ho).1; omega
      have hok : ops[k]? = some ops[k] := by simp [hko]
      exact ih k hkj _ hok (hcl k _ hok hkl) i k3
end
end Go.Abs
