import Derived.Test.YtjcakemgghfflaaXDrw3
set_option linter.unusedVariables false
set_option linter.unusedSimpArgs false
namespace Go.Abs
open Go.RowKit
section
variable {P : Program} {ops : Array Oper} {fc : Bool} {call : CallF} {meth : MethF} {flat : List AOp} {T : List TRec} {fr0 frn : Fr} {M0 Mn : Mem} {ps : List (Nat × Nat)}
variable {B : Nat → Prop} {w0 w : World} {σ0 σ : Env} {df : List Deferred} {listed : Array Bool} {act : Act} {m : Nat} {Q : Exit → Act → World → Prop}
theorem least_of {p : Nat → Prop} (h : ∃ n, p n) : ∃ n, p n ∧ ∀ k, k < n → ¬ p k := by
  obtain ⟨n, hn⟩ := h
  induction n using Nat.strongRecOn with
  | _ n ih =>
    by_cases hc : ∃ k, k < n ∧ p k
    · obtain ⟨k, h1, h2⟩ := hc
      exact ih k h1 h2
    · exact ⟨n, hn, fun k hk hp => hc ⟨k, hk, hp⟩⟩
theorem apartB_spec {di dj : Option Tmp} {ri rj : List Tmp} (h : apartB di dj ri rj = true) : (∀ t, di = some t → t ∉ rj ∧ dj ≠ some t) ∧ (∀ t, dj = some t → t ∉ ri) := by
  unfold apartB at h
  simp only [Bool.and_eq_true] at h
  obtain ⟨h1, h2⟩ := h
  refine ⟨fun t ht => ?_, fun t ht => ?_⟩
  · subst ht
    simp only [Bool.and_eq_true, decide_eq_true_eq, Bool.not_eq_true', List.contains_eq_mem, decide_eq_false_iff_not] at h1
    exact h1
  · subst ht
    simp only [Bool.not_eq_true', List.contains_eq_mem, decide_eq_false_iff_not] at h2
    exact h2
theorem stands (hd : DOk ops flat ps) (hi : Inv P ops flat T fr0 frn M0 Mn B w0 σ0 df listed act w σ m) {i : Nat} {o : Oper} (ho : ops[i]? = some o) (hun : listed.getD i false = false) (hall : ∀ k ∈ direct o, listed.getD k false = true)
    {k : Nat} (hk : k < ops.size) (hne : k ≠ i) :
    (k < i ∧ listed.getD k false = true) ∨ (i < k ∧ listed.getD k false = false) ∨
    (apartB (dstOf ops k) (dstOf ops i) (rdOf ops flat k) (rdOf ops flat i) = true ∧ (effAt flat k = true → effAt flat i = false) ∧
      (effAt flat k = true → memAt flat i = true ∨ (loadAt flat i = true ∧ (i, k) ∈ ps))) ∨
    (apartB (dstOf ops i) (dstOf ops k) (rdOf ops flat i) (rdOf ops flat k) = true ∧ (effAt flat k = true → effAt flat i = false) ∧
      (effAt flat k = true → memAt flat i = true ∨ (loadAt flat i = true ∧ (i, k) ∈ ps))) := by
  have hio : i < ops.size := (Array.getElem?_eq_some_iff.1 ho).1
  rcases Nat.lt_or_gt_of_ne hne with hlt | hgt
  · have hp := hd.pair k i hlt hio
    unfold pairB at hp
    simp only [Bool.or_eq_true, Bool.and_eq_true, List.contains_iff_mem] at hp
    rcases hp with hp | ⟨⟨⟨h1, h2⟩, h3⟩, h4⟩
    · exact .inl ⟨hlt, Inv.before hd hi.closed i o ho hall k hp⟩
    · refine .inr (.inr (.inl ⟨h1, fun he => ?_, fun he => ?_⟩))
      · simp [he] at h2; exact h2
      · simp [he] at h3; exact h3
  · have hp := hd.pair i k hgt hk
    unfold pairB at hp
    simp only [Bool.or_eq_true, Bool.and_eq_true, List.contains_iff_mem] at hp
    rcases hp with hp | ⟨⟨⟨h1, h2⟩, h3⟩, h4⟩
    · refine .inr (.inl ⟨hgt, ?_⟩)
      cases hl : listed.getD k false with
      | false => rfl
      | true =>
        have hok : ops[k]? = some ops[k] := by simp [hk]
        have := Inv.before hd hi.closed k _ hok (hi.closed k _ hok hl) i hp
        rw [hun] at this
        cases this
    · refine .inr (.inr (.inr ⟨h1, fun he => ?_, fun he => ?_⟩))
      · simp [he] at h2; exact h2
      · simp [he] at h4; exact h4
theorem sees (h : TF P ops fc call meth flat T fr0 frn M0 Mn) (hd : DOk ops flat ps) (hi : Inv P ops flat T fr0 frn M0 Mn B w0 σ0 df listed act w σ m) {i : Nat} {o : Oper} (ho : ops[i]? = some o)
    (hun : listed.getD i false = false) (hall : ∀ k ∈ direct o, listed.getD k false = true) {t : Tmp} (ht : t ∈ rdOf ops flat i) {v : AVal} (hv : (fmT T frn i).g t = some v) :
    ok (mmT T Mn m).n v ∧ act.tmps.getD t undef = conc σ v := by
  have hio : i < ops.size := (Array.getElem?_eq_some_iff.1 ho).1
  have hks : ∀ k, dstOf ops k = some t → k < ops.size := fun k hk => by
    unfold dstOf at hk
    cases hx : ops[k]? with
    | none => simp [hx] at hk
    | some y => exact (Array.getElem?_eq_some_iff.1 hx).1
  refine hi.look h (by omega) ?_ ?_ hv
  · intro k hk hdk
    rcases stands hd hi ho hun hall (hks k hdk) (by omega) with ⟨_, h1⟩ | ⟨h1, _⟩ | ⟨h1, _⟩ | ⟨h1, _⟩
    · exact h1
    · omega
    · exact absurd ht ((apartB_spec h1).1 t hdk).1
    · exact absurd ht ((apartB_spec h1).2 t hdk)
  · intro k hk hl hdk
    have hne : k ≠ i := fun e => by subst e; rw [hun] at hl; cases hl
    rcases stands hd hi ho hun hall (hks k hdk) hne with ⟨h1, _⟩ | ⟨_, h1⟩ | ⟨h1, _⟩ | ⟨h1, _⟩
    · omega
    · rw [h1] at hl; cases hl
    · exact absurd ht ((apartB_spec h1).1 t hdk).1
    · exact absurd ht ((apartB_spec h1).2 t hdk)
theorem chkPairs_mem {T : List TRec} {M : Mem} : ∀ {ps : List (Nat × Nat)}, chkPairs T M ps = true → ∀ p ∈ ps, chkPair T M p = true
  | [], _, p, hp => by simp at hp
  | q :: ps, h, p, hp => by
    simp only [chkPairs] at h
    cases hq : chkPair T M q with
    | false => simp [hq] at h
    | true =>
      simp only [hq, cond_true] at h
      rcases List.mem_cons.1 hp with rfl | hp
      · exact hq
      · exact chkPairs_mem h p hp
theorem again (h : TF P ops fc call meth flat T fr0 frn M0 Mn) (hd : DOk ops flat ps) (hps : chkPairs T Mn ps = true) (hi : Inv P ops flat T fr0 frn M0 Mn B w0 σ0 df listed act w σ m) {i : Nat} {o : Oper} {a : AOp} {v : AVal} (ho : ops[i]? = some o)
    (ha : flat[i]? = some a) (hun : listed.getD i false = false) (hall : ∀ k ∈ direct o, listed.getD k false = true) (hst : T[i]? = some ⟨fmT T frn i, mmT T Mn i, a, some v⟩)
    (he : evalOp fc call meth a (fmT T frn i) (mmT T Mn i) K0 = some (v, mmT T Mn (i + 1))) :
    ∃ m', evalOp fc call meth a (fmT T frn i) (mmT T Mn m) K0 = some (v, mmT T Mn m') ∧ m' ≤ ops.size ∧ ∀ k, EffAt flat T k → ((listed.getD k false = true ∨ k = i) ↔ k < m') := by
  have hio : i < ops.size := (Array.getElem?_eq_some_iff.1 ho).1
  have hks : ∀ k, EffAt flat T k → k < ops.size := fun k hk => by
    obtain ⟨_, R, v, hR, _⟩ := hk
    have := (List.getElem?_eq_some_iff.1 hR).1
    rw [h.len] at this; exact this
  have heffi : effAt flat i = isEff a := by simp [effAt, ha]
  by_cases hE : isEff a = true
  ·
    have hEi : EffAt flat T i := ⟨by rw [heffi, hE], _, v, hst, rfl⟩
    have hord : ∀ k, EffAt flat T k → k ≠ i → ((k < i ∧ listed.getD k false = true) ∨ (i < k ∧ listed.getD k false = false)) := by
      intro k hk hne
      rcases stands hd hi ho hun hall (hks k hk) hne with h1 | h1 | ⟨_, h1, _⟩ | ⟨_, h1, _⟩
      · exact .inl h1
      · exact .inr h1
      · have := h1 hk.1; rw [heffi, hE] at this; cases this
      · have := h1 hk.1; rw [heffi, hE] at this; cases this
    have hmi : m ≤ i := by
      rcases Nat.lt_or_ge i m with hlt | hge
      · have := (hi.eff i hEi).2 hlt
        rw [hun] at this; cases this
      · exact hge
    have hmem : mmT T Mn i = mmT T Mn m := h.mm_eq hmi (by omega) (fun k k1 k2 hk => by
      rcases hord k hk (by omega) with ⟨_, h2⟩ | ⟨h2, _⟩
      · have := (hi.eff k hk).1 h2; omega
      · omega)
    refine ⟨i + 1, by rw [← hmem]; exact he, by omega, fun k hk => ?_⟩
    by_cases e : k = i
    · simp [e]
    · rcases hord k hk e with ⟨h1, h2⟩ | ⟨h1, h2⟩
      · simp [h2]; omega
      · simp [h2, e]; omega
  · have hE : isEff a = false := by simpa using hE
    have hkeep : ∀ k, EffAt flat T k → ((listed.getD k false = true ∨ k = i) ↔ k < m) := by
      intro k hk
      have hne : k ≠ i := fun e => by subst e; have := hk.1; rw [heffi, hE] at this; cases this
      simp only [hne, or_false]
      exact hi.eff k hk
    refine ⟨m, ?_, hi.mle, hkeep⟩
    by_cases hF : memFree a = true
    · exact (free_same hF he).2 _
    ·
      have hmf : memAt flat i = false := by simp [memAt, ha]; simpa using hF
      have hun2 : ∀ k, EffAt flat T k → ((k < i ∧ listed.getD k false = true) ∨ (i < k ∧ listed.getD k false = false) ∨ (loadAt flat i = true ∧ (i, k) ∈ ps)) := by
        intro k hk
        have hne : k ≠ i := fun e => by subst e; have := hk.1; rw [heffi, hE] at this; cases this
        rcases stands hd hi ho hun hall (hks k hk) hne with h1 | h1 | ⟨_, _, h1⟩ | ⟨_, _, h1⟩
        · exact .inl h1
        · exact .inr (.inl h1)
        · rcases h1 hk.1 with h1 | h1
          · rw [hmf] at h1; cases h1
          · exact .inr (.inr h1)
        · rcases h1 hk.1 with h1 | h1
          · rw [hmf] at h1; cases h1
          · exact .inr (.inr h1)
      by_cases hb : ∃ k, EffAt flat T k ∧ ((k < i ∧ ¬ k < m) ∨ (i < k ∧ k < m))
      ·
        have hload : isLoad a = true := by
          obtain ⟨k, hk, hk2⟩ := hb
          rcases hun2 k hk with ⟨h1, h2⟩ | ⟨h1, h2⟩ | ⟨h1, _⟩
          · have := (hi.eff k hk).1 h2; omega
          · have : ¬ k < m := fun hlt => by have := (hi.eff k hk).2 hlt; rw [h2] at this; cases this
            omega
          · simpa [loadAt, ha] using h1
        obtain ⟨hsame, p, hp, hstill⟩ := load_same hload he
        have hpair : ∀ k, EffAt flat T k → (i, k) ∈ ps → (cond (Nat.blt k i) (mmT T Mn k) (mmT T Mn (k + 1))).still p.1 p.2 v.cells = true := by
          intro k hk hkp
          have := chkPairs_mem hps (i, k) hkp
          obtain ⟨_, R, u, hR, hu⟩ := hk
          unfold chkPair at this
          simp only [hst, hR, hu, stillAt, hp] at this
          have e1 : mmT T Mn k = R.M := by simp [mmT, hR]
          have e2 : mmT T Mn (k + 1) = memAfter T Mn k := rfl
          rw [e1, e2]
          exact this
        obtain ⟨k0, hk0, hk02⟩ := hb
        rcases hk02 with ⟨ka, kb⟩ | ⟨ka, kb⟩
        ·
          have hex : ∃ k, (EffAt flat T k ∧ m ≤ k ∧ k < i) := ⟨k0, hk0, by omega, ka⟩
          obtain ⟨k1, ⟨q1, q2, q3⟩, q4⟩ : ∃ k, (EffAt flat T k ∧ m ≤ k ∧ k < i) ∧ ∀ k', k' < k → ¬ (EffAt flat T k' ∧ m ≤ k' ∧ k' < i) := by
            exact least_of hex
          have hm1 : mmT T Mn k1 = mmT T Mn m := h.mm_eq q2 (by omega) (fun k a1 a2 hk => q4 k a2 ⟨hk, a1, by omega⟩)
          have hpp : (i, k1) ∈ ps := by
            rcases hun2 k1 q1 with ⟨_, h2⟩ | ⟨h1, _⟩ | ⟨_, h1⟩
            · have := (hi.eff k1 q1).1 h2; omega
            · omega
            · exact h1
          have := hpair k1 q1 hpp
          rw [Mem.blt_iff.2 q3, cond_true, hm1] at this
          exact hstill _ this
        ·
          have hex : ∃ d, (EffAt flat T (m - 1 - d) ∧ i < m - 1 - d ∧ d < m) := ⟨m - 1 - k0, by rw [show m - 1 - (m - 1 - k0) = k0 from by omega]; exact ⟨hk0, ka, by omega⟩⟩
          obtain ⟨d1, ⟨q1, q2, q3⟩, q4⟩ : ∃ d, (EffAt flat T (m - 1 - d) ∧ i < m - 1 - d ∧ d < m) ∧ ∀ d', d' < d → ¬ (EffAt flat T (m - 1 - d') ∧ i < m - 1 - d' ∧ d' < m) := by
            exact least_of hex
          obtain ⟨k1, hk1⟩ : ∃ k, k = m - 1 - d1 := ⟨_, rfl⟩
          rw [← hk1] at q1 q2
          have hm1 : mmT T Mn m = mmT T Mn (k1 + 1) := h.mm_eq (by omega) hi.mle (fun k a1 a2 hk => q4 (m - 1 - k) (by omega) (by rw [show m - 1 - (m - 1 - k) = k from by omega]; exact ⟨hk, by omega, by omega⟩))
          have hpp : (i, k1) ∈ ps := by
            rcases hun2 k1 q1 with ⟨h1, _⟩ | ⟨_, h2⟩ | ⟨_, h1⟩
            · omega
            · have := (hi.eff k1 q1).2 (by omega); rw [h2] at this; cases this
            · exact h1
          have hbf : Nat.blt k1 i = false := by
            cases hbb : Nat.blt k1 i
            · rfl
            · have := Mem.blt_iff.1 hbb; omega
          have := hpair k1 q1 hpp
          rw [hbf, cond_false, ← hm1] at this
          exact hstill _ this
      · have hmem : mmT T Mn m = mmT T Mn i := by
          rcases Nat.le_total m i with hle | hle
          · exact (h.mm_eq hle (by omega) (fun k a1 a2 hk => hb ⟨k, hk, .inl ⟨a2, by omega⟩⟩)).symm
          · refine h.mm_eq hle hi.mle (fun k a1 a2 hk => ?_)
            by_cases e : k = i
            · subst e; have := hk.1; rw [heffi, hE] at this; cases this
            · exact hb ⟨k, hk, .inr ⟨by omega, a2⟩⟩
        rw [hmem]
        have := noneff_same hE he
        rw [this] at he
        exact he
theorem getD_tf {listed : Array Bool} {i : Nat} (h : listed.getD i true = false) : listed.getD i false = false := by
  by_cases h' : i < listed.size
  · simp [h'] at h ⊢; exact h
  · simp [Array.getElem?_eq_none (Nat.le_of_not_lt h')] at h
theorem getD_set (listed : Array Bool) (i k : Nat) : (listed.setIfInBounds i true).getD k false = true ↔ (listed.getD k false = true ∨ (k = i ∧ i < listed.size)) := by
  by_cases e : i = k
  · subst e
    by_cases hlt : i < listed.size
    · simp [hlt]
    · simp [hlt, Array.getElem?_eq_none (Nat.le_of_not_lt hlt)]
  · have e' : ¬ k = i := fun x => e x.symm
    rw [Array.getD_eq_getD_getElem?, Array.getElem?_setIfInBounds_ne e, ← Array.getD_eq_getD_getElem?]
    simp [e']
theorem boolOf_undef (tmps : Array Value) (t : Tmp) : boolOf (tmps.setIfInBounds t undef)[t]? = none := boolOf_put tmps t
theorem drw_step (hcall : CallOk P call) (hmeth : MethOk P meth) (h : TF P ops fc call meth flat T fr0 frn M0 Mn) (hd : DOk ops flat ps) (hps : chkPairs T Mn ps = true)
    (hi : Inv P ops flat T fr0 frn M0 Mn B w0 σ0 df listed act w σ m) {i : Nat} (hrd : i ∈ Region.ready .any ops listed) {K : Act → World → Prop}
    (hK : ∀ act' w' σ' m', Inv P ops flat T fr0 frn M0 Mn B w0 σ0 df (listed.setIfInBounds i true) act' w' σ' m' → K act' w') : wpOp P ops Q i K act w := by
  obtain ⟨hun, o, ho, hall0⟩ := mem_ready.1 hrd
  have hio : i < ops.size := (Array.getElem?_eq_some_iff.1 ho).1
  have hall : ∀ k ∈ direct o, listed.getD k false = true := fun k hk => by
    obtain ⟨e, he, hb, rfl⟩ := mem_direct.1 hk
    exact hall0 e he hb
  have hunf : listed.getD i false = false := getD_tf hun
  obtain ⟨o', a, st, ho', ha, hok, hT, hcase⟩ := h.step i hio
  rw [ho] at ho'
  obtain rfl := Option.some.inj ho'
  have hsz : i < listed.size := by rw [hi.size]; exact hio
  have hset : ∀ k, (listed.setIfInBounds i true).getD k false = true ↔ (listed.getD k false = true ∨ k = i) := fun k => by
    rw [getD_set]; simp [hsz]
  have hrdT : ∀ j w t, o.guard = some (j, w) → dstOf ops j = some t → t ∈ rdOf ops flat i := by
    intro j w t hg hdj
    simp [rdOf, ho, hg, hdj]
  have hclosed : ∀ (j : Nat) (o : Oper), ops[j]? = some o → (listed.setIfInBounds i true).getD j false = true → ∀ k ∈ direct o, (listed.setIfInBounds i true).getD k false = true := by
    intro j oj hj hl k hk
    rw [hset] at hl ⊢
    rcases hl with hl | rfl
    · exact .inl (hi.closed j oj hj hl k hk)
    · rw [ho] at hj
      obtain rfl := Option.some.inj hj
      exact .inl (hall k hk)
  have hlast : ∀ t, dstOf ops i = some t → ∀ j, listed.getD j false = true → dstOf ops j = some t → j ≤ i := by
    intro t hdi j hj hdj
    have hjs : j < ops.size := by
      unfold dstOf at hdj
      cases hx : ops[j]? with
      | none => simp [hx] at hdj
      | some y => exact (Array.getElem?_eq_some_iff.1 hx).1
    have hne : j ≠ i := fun e => by subst e; rw [hunf] at hj; cases hj
    rcases stands hd hi ho hunf hall hjs hne with ⟨h1, _⟩ | ⟨_, h1⟩ | ⟨h1, _⟩ | ⟨h1, _⟩
    · omega
    · rw [h1] at hj; cases hj
    · exact absurd hdi ((apartB_spec h1).1 t hdj).2
    · exact absurd hdj ((apartB_spec h1).1 t hdi).2
  have hwr : ∀ (act' : Act) (σ' : Env) (m' : Nat) (val : Value), Env.ext (mmT T Mn m).n σ σ' → (mmT T Mn m).n ≤ (mmT T Mn m').n → act'.tmps = (act.put o.dst val).tmps →
      (∀ t, o.dst = some t → (∀ v, (fmT T frn (i + 1)).g t = some v → ok (mmT T Mn m').n v ∧ act'.tmps.getD t undef = conc σ' v) ∧ ((∃ R, T[i]? = some R ∧ R.st = none) → boolOf act'.tmps[t]? = none)) →
      (∀ t k, (listed.setIfInBounds i true).getD k false = true → dstOf ops k = some t → (∀ j, (listed.setIfInBounds i true).getD j false = true → dstOf ops j = some t → j ≤ k) →
        (∀ v, (fmT T frn (k + 1)).g t = some v → ok (mmT T Mn m').n v ∧ act'.tmps.getD t undef = conc σ' v) ∧ ((∃ R, T[k]? = some R ∧ R.st = none) → boolOf act'.tmps[t]? = none)) ∧
      (∀ t, (∀ j, (listed.setIfInBounds i true).getD j false = true → dstOf ops j ≠ some t) → ∀ v, fr0.g t = some v → ok (mmT T Mn m').n v ∧ act'.tmps.getD t undef = conc σ' v) := by
    intro act' σ' m' val hx hn htm hnew
    have hdi : dstOf ops i = o.dst := by simp [dstOf, ho]
    have hother : ∀ t, o.dst ≠ some t → act'.tmps[t]? = act.tmps[t]? := by
      intro t ht
      rw [htm]
      cases hdd : o.dst with
      | none => rfl
      | some u =>
        simp only [Act.put]
        rw [Array.getElem?_setIfInBounds_ne (fun e => ht (by rw [hdd, e]))]
    refine ⟨fun t k hk hdk hmax => ?_, fun t hno v hv => ?_⟩
    · by_cases e : k = i
      · subst e
        exact hnew t (by rw [← hdi]; exact hdk)
      · have hkl : listed.getD k false = true := by
          rcases (hset k).1 hk with h1 | h1
          · exact h1
          · exact absurd h1 e
        have hnt : o.dst ≠ some t := by
          intro hdt
          have h1 := hmax i ((hset i).2 (.inr rfl)) (by rw [hdi]; exact hdt)
          have h2 := hlast t (by rw [hdi]; exact hdt) k hkl hdk
          omega
        obtain ⟨q1, q2⟩ := hi.wr t k hkl hdk (fun j hj hdj => hmax j ((hset j).2 (.inl hj)) hdj)
        rw [Array.getD_eq_getD_getElem?, hother t hnt, ← Array.getD_eq_getD_getElem?]
        refine ⟨fun v hv => ?_, q2⟩
        obtain ⟨a1, a2⟩ := q1 v hv
        exact ⟨ok_mono hn v a1, by rw [a2, conc_ext hx v a1]⟩
    · have hnt : o.dst ≠ some t := fun hdt => hno i ((hset i).2 (.inr rfl)) (by rw [hdi]; exact hdt)
      rw [Array.getD_eq_getD_getElem?, hother t hnt, ← Array.getD_eq_getD_getElem?]
      obtain ⟨a1, a2⟩ := hi.nw t (fun j hj => hno j ((hset j).2 (.inl hj))) v hv
      exact ⟨ok_mono hn v a1, by rw [a2, conc_ext hx v a1]⟩
  unfold wpOp
  rw [ho]
  rcases hcase with ⟨v, rfl, he, hfm, hg⟩ | ⟨rfl, hfm, hmm, j, wv, hg, hno⟩
  ·
    have hw : Region.wanted o (yielded ops act.tmps) = true := by
      rcases hg with hg | ⟨j, wv, t, hg, hdj, hv⟩
      · simp [Region.wanted, hg]
      · obtain ⟨-, hval⟩ := sees h hd hi ho hunf hall (hrdT j wv t hg hdj) hv
        have hb : act.tmps[t]? = some (.bool wv) := by
          rw [Array.getD_eq_getD_getElem?] at hval
          cases hx : act.tmps[t]? with
          | none => rw [hx] at hval; simp [undef, conc] at hval
          | some y => rw [hx] at hval; simpa [conc] using hval
        simp only [Region.wanted, hg]
        rw [yielded_eq]
        have : (ops[j]?).bind (·.dst) = some t := hdj
        rw [this]
        simp [hb, boolOf]
    simp only [hw, if_true]
    left
    obtain ⟨m', he', hm', hmk⟩ := again h hd hps hi ho ha hunf hall hT he
    have hfr : FrR σ (mmT T Mn m).n (Fr.only (rdOf ops flat i) 0 (fmT T frn i)) act.tmps := by
      refine ⟨?_, fun t x hx => ?_⟩
      · rw [Fr.only_length, ← hi.len]
        clear hwr hlast hclosed
        have : ∀ k, k ≤ ops.size → List.length (fmT T frn k) = List.length fr0 := by
          intro k
          induction k with
          | zero => intro _; rw [h.f0]
          | succ k ih =>
            intro hk
            obtain ⟨o2, a2, st2, q1, q2, q3, q4, q5⟩ := h.step k (by omega)
            have hl : ∀ (fr : Fr) (d : Option Tmp) (v : AVal), List.length (fr.put d v) = List.length fr := fun fr d v => by cases d with | none => rfl | some t => exact Fr.length_s _ _ _
            have hl2 : ∀ (fr : Fr) (d : Option Tmp), List.length (fr.killO d) = List.length fr := fun fr d => by cases d with | none => rfl | some t => exact Fr.length_s _ _ _
            rcases q5 with ⟨v, _, _, e, _⟩ | ⟨_, e, _, _⟩
            · rw [e, hl, ih (by omega)]
            · rw [e, hl2, ih (by omega)]
        exact this i (by omega)
      · rw [Fr.only_g, Nat.zero_add] at hx
        split at hx
        · rename_i hmem; exact sees h hd hi ho hunf hall hmem hx
        · cases hx
    have he2 : evalOp fc call meth a (Fr.only (rdOf ops flat i) 0 (fmT T frn i)) (mmT T Mn m) K0 = some (v, mmT T Mn m') := by
      rw [← he']
      refine evalOp_congr (fun t ht => ?_)
      rw [Fr.only_g, Nat.zero_add, if_pos]
      simp [rdOf, ha, ht]
    refine op_sound hcall hmeth hi.rep hfr hok he2 ?_
    intro σ' w' hr' hx hn hokv
    obtain ⟨q1, q2⟩ := hwr (act.put o.dst (conc σ' v)) σ' m' (conc σ' v) hx hn rfl (fun t ht => by
      refine ⟨fun x hxv => ?_, fun ⟨R, hR, hst⟩ => ?_⟩
      · rw [hfm, ht] at hxv
        simp only [Fr.put] at hxv
        rw [Fr.g_s] at hxv
        by_cases hlt : t < List.length (fmT T frn i)
        · rw [if_pos ⟨rfl, hlt⟩] at hxv
          obtain rfl := Option.some.inj hxv
          refine ⟨hokv, ?_⟩
          have hlt' : t < act.tmps.size := by rw [← hfr.len, Fr.only_length]; exact hlt
          rw [ht]
          simp [Act.put, Array.getD_eq_getD_getElem?, hlt']
        · rw [if_neg (fun e => hlt e.2), Fr.g_eq, List.getElem?_eq_none (Nat.le_of_not_lt hlt)] at hxv
          cases hxv
      · rw [hT] at hR
        obtain rfl := Option.some.inj hR
        cases hst)
    refine hK _ w' σ' m' ⟨by simp [hi.size], hclosed, hm', fun k hk => by rw [hset]; exact hmk k hk, hr', hi.ext.trans hx hi.nle, Nat.le_trans hi.nle hn, ?_, ?_, q1, q2⟩
    · rw [← hi.dfs]; cases o.dst <;> rfl
    · rw [hi.len]; cases o.dst <;> simp [Act.put]
  ·
    have hw : Region.wanted o (yielded ops act.tmps) = false := by
      simp only [Region.wanted, hg]
      rcases hno with ⟨t, x, hdj, hv, hne⟩ | ⟨R, hR, hst⟩
      · obtain ⟨-, hval⟩ := sees h hd hi ho hunf hall (hrdT j wv t hg hdj) hv
        have hb : act.tmps[t]? = some (.bool x) := by
          rw [Array.getD_eq_getD_getElem?] at hval
          cases hx : act.tmps[t]? with
          | none => rw [hx] at hval; simp [undef, conc] at hval
          | some y => rw [hx] at hval; simpa [conc] using hval
        rw [yielded_eq]
        have : (ops[j]?).bind (·.dst) = some t := hdj
        rw [this]
        simp [hb, boolOf, hne]
      · obtain ⟨hjd, huniq⟩ := hd.guard i o j wv ho hg
        have hjl := hall j hjd
        have hj : yielded ops act.tmps j = none := by
          rw [yielded_eq]
          cases hdj : dstOf ops j with
          | none => have : (ops[j]?).bind (·.dst) = none := hdj; rw [this]; rfl
          | some t =>
            have : (ops[j]?).bind (·.dst) = some t := hdj
            rw [this]
            simp only [Option.bind_some]
            refine (hi.wr t j hjl hdj (fun k hk hdk => ?_)).2 ⟨R, hR, hst⟩
            have hks : k < ops.size := by
              unfold dstOf at hdk
              cases hx : ops[k]? with
              | none => simp [hx] at hdk
              | some y => exact (Array.getElem?_eq_some_iff.1 hx).1
            rcases huniq k hks with e | e
            · omega
            · exact absurd (by rw [hdk, hdj]) e
        rw [hj]; rfl
    simp only [hw, Bool.false_eq_true, if_false]
    have hkeep : ∀ k, EffAt flat T k → ((listed.getD k false = true ∨ k = i) ↔ k < m) := by
      intro k hk
      have hne : k ≠ i := fun e => by
        subst e
        obtain ⟨_, R, u, hR, hu⟩ := hk
        rw [hT] at hR
        obtain rfl := Option.some.inj hR
        cases hu
      simp only [hne, or_false]
      exact hi.eff k hk
    obtain ⟨q1, q2⟩ := hwr (act.put o.dst undef) σ m undef (Env.ext_refl _ _) (Nat.le_refl _) rfl (fun t ht => by
      refine ⟨fun x hxv => ?_, fun _ => ?_⟩
      · rw [hfm, ht] at hxv
        simp only [Fr.killO] at hxv
        rw [Fr.g_s] at hxv
        by_cases hlt : t < List.length (fmT T frn i)
        · rw [if_pos ⟨rfl, hlt⟩] at hxv; cases hxv
        · rw [if_neg (fun e => hlt e.2), Fr.g_eq, List.getElem?_eq_none (Nat.le_of_not_lt hlt)] at hxv
          cases hxv
      · rw [ht]; exact boolOf_undef act.tmps t)
    refine hK _ w σ m ⟨by simp [hi.size], hclosed, hi.mle, fun k hk => by rw [hset]; exact hkeep k hk, hi.rep, hi.ext, hi.nle, ?_, ?_, q1, q2⟩
    · rw [← hi.dfs]; cases o.dst <;> rfl
    · rw [hi.len]; cases o.dst <;> simp [Act.put]
theorem drw_any (hcall : CallOk P call) (hmeth : MethOk P meth) (h : TF P ops fc call meth flat T fr0 frn M0 Mn) (hd : DOk ops flat ps) (hps : chkPairs T Mn ps = true)
    (hfin : ∀ σ' w' act', Rep σ' B w0 Mn w' → FrR σ' Mn.n frn act'.tmps → act'.defers = df → Env.ext M0.n σ0 σ' → M0.n ≤ Mn.n → Q .normal act' w') :
    ∀ (fuel : Nat) (listed : Array Bool) (act : Act) (w : World) (σ : Env) (m : Nat), Inv P ops flat T fr0 frn M0 Mn B w0 σ0 df listed act w σ m →
      (((List.range ops.size).filter fun k => !listed.getD k false).length = fuel) → wpAny P .any ops Q fuel listed act w := by
  have hdone : ∀ (listed : Array Bool) (act : Act) (w : World) (σ : Env) (m : Nat), Inv P ops flat T fr0 frn M0 Mn B w0 σ0 df listed act w σ m → (∀ k, k < ops.size → listed.getD k false = true) → Q .normal act w := by
    intro listed act w σ m hi hall
    have hks : ∀ k, EffAt flat T k → k < ops.size := fun k hk => by
      obtain ⟨_, R, v, hR, _⟩ := hk
      have := (List.getElem?_eq_some_iff.1 hR).1
      rw [h.len] at this; exact this
    have hmem : mmT T Mn ops.size = mmT T Mn m := h.mm_eq hi.mle (Nat.le_refl _) (fun k k1 k2 hk => by
      have := (hi.eff k hk).1 (hall k (hks k hk)); omega)
    have hMn : mmT T Mn ops.size = Mn := by simp [mmT, ← h.len]
    have hfn : fmT T frn ops.size = frn := by simp [fmT, ← h.len]
    have hrep := hi.rep
    have hn := hi.nle
    rw [← hmem, hMn] at hrep hn
    refine hfin σ w act hrep ⟨?_, fun t v hv => ?_⟩ hi.dfs hi.ext hn
    · rw [← hi.len]
      have : ∀ k, k ≤ ops.size → List.length (fmT T frn k) = List.length fr0 := by
        intro k
        induction k with
        | zero => intro _; rw [h.f0]
        | succ k ih =>
          intro hk
          obtain ⟨o2, a2, st2, q1, q2, q3, q4, q5⟩ := h.step k (by omega)
          have hl : ∀ (fr : Fr) (d : Option Tmp) (v : AVal), List.length (fr.put d v) = List.length fr := fun fr d v => by cases d with | none => rfl | some t => exact Fr.length_s _ _ _
          have hl2 : ∀ (fr : Fr) (d : Option Tmp), List.length (fr.killO d) = List.length fr := fun fr d => by cases d with | none => rfl | some t => exact Fr.length_s _ _ _
          rcases q5 with ⟨v, _, _, e, _⟩ | ⟨_, e, _, _⟩
          · rw [e, hl, ih (by omega)]
          · rw [e, hl2, ih (by omega)]
      have := this ops.size (Nat.le_refl _)
      rw [hfn] at this
      exact this
    · have := hi.look h (i := ops.size) (Nat.le_refl _) (t := t) (fun k hk _ => hall k hk) (fun k hk hl hdk => by
        unfold dstOf at hdk
        rw [Array.getElem?_eq_none hk] at hdk
        simp at hdk) (v := v) (by rw [hfn]; exact hv)
      rw [← hmem, hMn] at this
      exact this
  have hready : ∀ (listed : Array Bool), listed.size = ops.size → Region.ready .any ops listed = [] → ∀ k, k < ops.size → listed.getD k false = true := by
    intro listed hsz hnil k
    induction k using Nat.strongRecOn with
    | _ k ih =>
      intro hk
      cases hl : listed.getD k false with
      | true => rfl
      | false =>
        have hok : ops[k]? = some ops[k] := by simp [hk]
        have : k ∈ Region.ready .any ops listed := by
          refine mem_ready.2 ⟨?_, ops[k], hok, fun e he hb => ?_⟩
          · have : k < listed.size := by omega
            simp [this] at hl ⊢; exact hl
          · have := hd.edge k _ hok e.on (mem_direct.2 ⟨e, he, hb, rfl⟩)
            exact ih e.on this (by omega)
        rw [hnil] at this
        cases this
  intro fuel
  induction fuel with
  | zero =>
    intro listed act w σ m hi hlen
    have hall : ∀ k, k < ops.size → listed.getD k false = true := by
      intro k hk
      cases hl : listed.getD k false with
      | true => rfl
      | false =>
        have : k ∈ (List.range ops.size).filter fun k => !listed.getD k false := by simp [hk]; simpa using hl
        rw [List.length_eq_zero_iff.1 hlen] at this
        cases this
    refine ⟨?_, hdone listed act w σ m hi hall⟩
    cases hr : Region.ready .any ops listed with
    | nil => rfl
    | cons x xs =>
      have : x ∈ Region.ready .any ops listed := by rw [hr]; simp
      obtain ⟨h1, o, ho, _⟩ := mem_ready.1 this
      have := hall x (Array.getElem?_eq_some_iff.1 ho).1
      rw [getD_tf h1] at this
      cases this
  | succ fuel ih =>
    intro listed act w σ m hi hlen
    refine ⟨fun hnil => hdone listed act w σ m hi (hready listed hi.size hnil), fun i hir => ?_⟩
    refine drw_step hcall hmeth h hd hps hi hir ?_
    intro act' w' σ' m' hi'
    refine ih _ act' w' σ' m' hi' ?_
    obtain ⟨h1, o, ho, _⟩ := mem_ready.1 hir
    have hio : i < ops.size := (Array.getElem?_eq_some_iff.1 ho).1
    have hsz : i < listed.size := by rw [hi.size]; exact hio
    have hif := getD_tf h1
    have hfil : ((List.range ops.size).filter fun k => !(listed.setIfInBounds i true).getD k false) = ((List.range ops.size).filter fun k => !listed.getD k false).erase i := by
      rw [List.Nodup.erase_eq_filter (List.Pairwise.filter _ List.nodup_range), List.filter_filter]
      refine List.filter_congr fun k _ => ?_
      have := getD_set listed i k
      cases h2 : (listed.setIfInBounds i true).getD k false <;> cases h3 : listed.getD k false <;> by_cases e : k = i <;> simp_all
    rw [hfil, List.length_erase_of_mem (by simp [hio]; simpa using hif), hlen]
    rfl
theorem drw_sound (hmix : P.follows .mixedOrders = true) (hcall : CallOk P call) (hmeth : MethOk P meth) {id : Nat} {g : DL} {fr : Fr} {M : Mem} {act : Act} {w : World} {K : Fr → Mem → List TRec → Option (AVal × Mem)} {r : AVal × Mem}
    (hok : okGL P ops g.toGL 0 [] 0 = some ops.size) (hdr : drwOk ops g.flat ps = true) (he : evalDL fc call meth g fr M [] (fun fr M acc => cond (chkPairs acc.reverse M ps) (K fr M acc) none) = some r)
    (hr : Rep σ B w0 M w) (hf : FrR σ M.n fr act.tmps)
    (hfin : ∀ σ' M' w' fr' act' acc, K fr' M' acc = some r → Rep σ' B w0 M' w' → FrR σ' M'.n fr' act'.tmps → act'.defers = act.defers → Env.ext M.n σ σ' → M.n ≤ M'.n → Q .normal act' w') :
    (Code.region id ops true).wp P Q act w := by
  obtain ⟨T, sk', fr', M', h1, h2, h3, h4⟩ := dl_run (sk := []) g hok he (fun x hx => by simp at hx)
  simp only [List.append_nil, List.reverse_reverse, cond_none] at h2
  have hTF := TF.of_run h1 h4
  have hd := DOk.of hdr
  refine wp_region_any hmix ?_
  have hr' : Rep σ B w0 M { w with drawn := w.drawn + 1 } := hr.drew rfl rfl rfl rfl
  have hs0 : ∀ k, (Array.replicate ops.size false).getD k false = false := fun k => by
    by_cases h : k < ops.size <;> simp [h]
  refine drw_any (df := act.defers) (σ0 := σ) (B := B) (w0 := w0) hcall hmeth hTF hd h2.1 (fun σ' w' act' q1 q2 q3 q4 q5 => hfin σ' M' w' fr' act' _ h2.2 q1 q2 q3 q4 q5) ops.size _ act _ σ 0 ?_ ?_
  · refine ⟨by simp, (fun j o ho hl => by rw [hs0] at hl; cases hl), Nat.zero_le _, (fun k hk => by rw [hs0]; simp), (by rw [hTF.m0]; exact hr'), Env.ext_refl _ _, (by rw [hTF.m0]; exact Nat.le_refl _), rfl, hf.len, (fun t i hl => by rw [hs0] at hl; cases hl), fun t _ v hv => ?_⟩
    rw [hTF.m0]
    exact hf.val t v hv
  · rw [List.filter_eq_self.2 (fun k _ => by rw [hs0]; rfl)]
    simp
end
end Go.Abs
