import Derived.Test.YtjcakemgghfflaaXTake
set_option linter.unusedVariables false
set_option linter.unusedSimpArgs false
namespace Go.Abs
open Go.RowKit Go.ChangeShapes Go.WideShapes
def argOf (P : Program) (n : Nat) (t : TypeId) : Option (Bool × List AT) := match P.underlying t with
  | some (.struct _) => (rowOf P n t).map fun r => (true, r)
  | some (.array _ _) => (rowOf P n t).map fun r => (true, r)
  | _ => (rowOf P n t).map fun r => (false, r)
def argsOf (P : Program) (n : Nat) : List TypeId → Option (List (Bool × List AT))
  | [] => some []
  | t :: ts => (argOf P n t).bind fun r => (argsOf P n ts).map fun rs => r :: rs
def ShowsArg (M : Mem) (r : Bool × List AT) (v : AVal) : Prop := match r.1 with
  | true => ∃ vs, v = .agg vs ∧ ShowsR M r.2 vs
  | false => ∃ t, r.2 = [t] ∧ Shows M t v
def ShowsArgs (M : Mem) : List (Bool × List AT) → List AVal → Prop
  | [], vs => vs = []
  | r :: rs, vs => ∃ v vs', vs = v :: vs' ∧ ShowsArg M r v ∧ ShowsArgs M rs vs'
theorem ShowsArg.mono {M M' : Mem} (h : M.Upto M') {r : Bool × List AT} {v : AVal} (hv : ShowsArg M r v) : ShowsArg M' r v := by
  unfold ShowsArg at *
  split at hv
  · obtain ⟨vs, h1, h2⟩ := hv; exact ⟨vs, h1, h2.mono h⟩
  · obtain ⟨t, h1, h2⟩ := hv; exact ⟨t, h1, h2.mono h⟩
theorem ShowsArgs.mono {M M' : Mem} (h : M.Upto M') : ∀ {rs : List (Bool × List AT)} {vs : List AVal}, ShowsArgs M rs vs → ShowsArgs M' rs vs
  | [], vs, hv => hv
  | r :: rs, vs, hv => by
    obtain ⟨v, vs', h1, h2, h3⟩ := hv
    exact ⟨v, vs', h1, h2.mono h, ShowsArgs.mono h h3⟩
section
variable {H : Type} {enc : TypeId × Value → H} {P : Program} {w w0 : World} {B : Nat → Prop} {base : Nat} {Q : Nat → Prop}
theorem take_arg (hB : ∀ k, k < w.heap.size → B k) {n : Nat} {t : TypeId} {v : Value} {d : DataW H} {p : List MemPlace} {r : Bool × List AT} (hd : DataW.Trod enc P w 0 (fun _ => true) true t v d p) (hr : argOf P n t = some r)
    (hv : Value.okWide P w .any base t v) (hw : ∀ k ∈ d.weights P t, k ≤ reachBytes) (hq : ∀ L, Q L → lensLe L d) {σ : Env} {M : Mem} (hrep : Rep σ B w0 M w) :
    ∃ σ' M' a, Rep σ' B w0 M' w ∧ Env.ext M.n σ σ' ∧ M.Upto M' ∧ conc σ' a = v ∧ ok M'.n a ∧ ShowsArg M' r a ∧ ∀ L, Q L → RoNew L M M' := by
  obtain ⟨fuel, hd⟩ := hd
  have single : ∀ row, rowOf P n t = some row → r = (false, row) → v.cells = #[v] → row.length = 1 → ∃ σ' M' a, Rep σ' B w0 M' w ∧ Env.ext M.n σ σ' ∧ M.Upto M' ∧ conc σ' a = v ∧ ok M'.n a ∧ ShowsArg M' r a ∧ ∀ L, Q L → RoNew L M M' := by
    intro row hrow e hc hl
    rw [hc] at hd
    obtain ⟨σ', M', vs, q1, q2, q3, q4, q5, q6, q7, q10⟩ := take (Q := Q) hB fuel n hd hrow hw hq σ M hrep
    obtain ⟨t', rfl⟩ := List.length_eq_one_iff.1 hl
    rw [ShowsR] at q7
    obtain ⟨a, vs', rfl, q8, q9⟩ := q7
    rw [ShowsR] at q9
    subst q9
    simp only [concL, List.cons.injEq, and_true] at q4
    simp only [okL, and_true] at q5
    exact ⟨σ', M', a, q1, q2, q3, q4, q5, by rw [e]; exact ⟨t', rfl, q8⟩, q10⟩
  have several : ∀ row cs, rowOf P n t = some row → r = (true, row) → v = .agg cs → ∃ σ' M' a, Rep σ' B w0 M' w ∧ Env.ext M.n σ σ' ∧ M.Upto M' ∧ conc σ' a = v ∧ ok M'.n a ∧ ShowsArg M' r a ∧ ∀ L, Q L → RoNew L M M' := by
    intro row cs hrow e hc
    subst hc
    obtain ⟨σ', M', vs, q1, q2, q3, q4, q5, q6, q7, q10⟩ := take (Q := Q) hB fuel n hd hrow hw hq σ M hrep
    exact ⟨σ', M', .agg vs, q1, q2, q3, by simp only [conc, q4, Value.cells], by simp only [ok]; exact ⟨q5, q6⟩, by rw [e]; exact ⟨vs, rfl, q7⟩, q10⟩
  have one : ∀ row, rowOf P n t = some row → (∀ fs, P.underlying t ≠ some (.struct fs)) → (∀ m e, P.underlying t ≠ some (.array m e)) → v.cells = #[v] ∧ row.length = 1 := by
    intro row hrow h1 h2
    cases n with
    | zero => simp [rowOf] at hrow
    | succ n =>
      unfold rowOf at hrow
      split at hrow
      · rename_i hu; obtain ⟨b, rfl⟩ := okWide_bool hu hv; obtain ⟨rfl, _⟩ := sizedRow_some hrow; exact ⟨rfl, rfl⟩
      · rename_i k hu; obtain ⟨b, rfl⟩ := okWide_int hu hv; obtain ⟨rfl, _⟩ := sizedRow_some hrow; exact ⟨rfl, rfl⟩
      · rename_i hu; obtain ⟨b, rfl⟩ := okWide_string hu hv; obtain ⟨rfl, _⟩ := sizedRow_some hrow; exact ⟨rfl, rfl⟩
      · rename_i e hu
        obtain ⟨x, y, z, rfl⟩ := okWide_slice hu hv
        obtain ⟨r', _, hrow⟩ := bind_some'.1 hrow
        obtain ⟨rfl, _⟩ := sizedRow_some (cond_none.1 hrow).2
        exact ⟨rfl, rfl⟩
      · rename_i fs hu; exact absurd hu (h1 fs)
      · rename_i m e hu; exact absurd hu (h2 m e)
      · cases hrow
  unfold argOf at hr
  split at hr
  · rename_i fs hu
    obtain ⟨row, hrow, e⟩ := Option.map_eq_some_iff.1 hr
    obtain ⟨cs, rfl, _⟩ := okWide_struct hu hv
    exact several row cs hrow e.symm rfl
  · rename_i m e' hu
    obtain ⟨row, hrow, e⟩ := Option.map_eq_some_iff.1 hr
    unfold Value.okWide at hv
    rw [hu] at hv
    obtain ⟨cs, rfl, _⟩ := hv
    exact several row cs hrow e.symm rfl
  · rename_i h1 h2
    obtain ⟨row, hrow, e⟩ := Option.map_eq_some_iff.1 hr
    obtain ⟨g1, g2⟩ := one row hrow h1 h2
    exact single row hrow e.symm g1 g2
theorem take_args (hB : ∀ k, k < w.heap.size → B k) {n : Nat} : ∀ {ts : List TypeId} {vs : List Value} {ds : List (DataW H)} {ps : List MemPlace} {rs : List (Bool × List AT)}, DataW.TrodAll enc P w 0 (fun _ => true) true ts vs ds ps → argsOf P n ts = some rs →
    (∀ (j : Nat) t v, ts[j]? = some t → vs[j]? = some v → Value.okWide P w .any base t v) → (∀ k ∈ DataW.weightsEach P ts ds, k ≤ reachBytes) → (∀ L, Q L → ∀ d ∈ ds, lensLe L d) → ∀ {σ : Env} {M : Mem}, Rep σ B w0 M w →
    ∃ σ' M' as, Rep σ' B w0 M' w ∧ Env.ext M.n σ σ' ∧ M.Upto M' ∧ concL σ' as = vs ∧ okL M'.n as ∧ ShowsArgs M' rs as ∧ ∀ L, Q L → RoNew L M M'
  | [], vs, ds, ps, rs, h, hr, hv, hw, hq, σ, M, hrep => by
    obtain ⟨rfl, rfl, rfl⟩ := trodAll_nil h
    obtain rfl := Option.some.inj hr
    exact ⟨σ, M, [], hrep, Env.ext_refl _ _, Mem.Upto.refl M, rfl, by simp [okL], rfl, fun L _ => RoNew.refl L M⟩
  | t :: ts, vs, ds, ps, rs, h, hr, hv, hw, hq, σ, M, hrep => by
    obtain ⟨v, vs', d, ds', p, q, rfl, rfl, rfl, h1, h2⟩ := trodAll_cons h
    simp only [argsOf] at hr
    obtain ⟨r, hr1, hr⟩ := bind_some'.1 hr
    obtain ⟨rs', hr2, rfl⟩ := Option.map_eq_some_iff.1 hr
    simp only [DataW.weightsEach, List.mem_append] at hw
    obtain ⟨σ1, M1, a, q1, q2, q3, q4, q5, q6, q7⟩ := take_arg (Q := Q) hB h1 hr1 (hv 0 t v rfl rfl) (fun k hk => hw k (.inl hk)) (fun L hL => hq L hL d (by simp)) hrep
    obtain ⟨σ2, M2, as, p1, p2, p3, p4, p5, p6, p7⟩ := take_args hB h2 hr2 (fun j t v h1 h2 => hv (j + 1) t v (by simpa using h1) (by simpa using h2)) (fun k hk => hw k (.inr hk)) (fun L hL d hd => hq L hL d (by simp [hd])) q1
    refine ⟨σ2, M2, a :: as, p1, q2.trans p2 q3.1, q3.trans p3, ?_, by simp only [okL]; exact ⟨ok_mono p3.1 _ q5, p5⟩, ⟨a, as, rfl, q6.mono p3, p6⟩, fun L hL => (q7 L hL).trans (p7 L hL) p3⟩
    simp only [concL]
    rw [p4, conc_ext p2 _ q5, q4]
theorem law_calls_q {call : CallF} (hC : CallOk P call) {f : FuncId} {n : Nat} {ts : List TypeId} {vs : List Value} {ds : List (DataW H)} {ps : List MemPlace} {rs : List (Bool × List AT)} {ts' : List TypeId} {gs : List (DataW H)}
    (h : DataW.TrodAll enc P w 0 (fun _ => true) true ts vs ds ps) (hr : argsOf P n ts = some rs)
    (hv : ∀ (j : Nat) t v, ts[j]? = some t → vs[j]? = some v → Value.okWide P w .any base t v) (hw : (DataW.weightsEach P (ts ++ ts') (ds ++ gs)).all (· ≤ reachBytes) = true)
    (hq : ∀ L, Q L → ∀ d ∈ ds, lensLe L d) (hlaw : ∀ as M, M.Whole → okL M.n as → ShowsArgs M rs as → (∀ L, Q L → RoNew L Mem.empty M) → ∃ M', call f as M = some (.bool true, M')) :
    Calls P f vs.toArray w fun e w' => e = .returned (.bool true) ∧ Below w.heap.size w w' := by
  have hw' : ∀ k ∈ DataW.weightsEach P ts ds, k ≤ reachBytes := by
    intro k hk
    have hall : ∀ (ts : List TypeId) (ds : List (DataW H)) (vs : List Value) (ps : List MemPlace), DataW.TrodAll enc P w 0 (fun _ => true) true ts vs ds ps → ∀ k ∈ DataW.weightsEach P ts ds, k ∈ DataW.weightsEach P (ts ++ ts') (ds ++ gs) := by
      intro ts
      induction ts with
      | nil => intro ds vs ps h k hk; simp [DataW.weightsEach] at hk
      | cons t ts ih =>
        intro ds vs ps h k hk
        obtain ⟨v, vs', d, ds', p, q, rfl, rfl, rfl, h1, h2⟩ := trodAll_cons h
        simp only [DataW.weightsEach, List.mem_append, List.cons_append] at hk ⊢
        rcases hk with hk | hk
        · exact .inl hk
        · exact .inr (ih ds' vs' q h2 k hk)
    have := List.all_eq_true.1 hw k (hall ts ds vs ps h k hk)
    simpa using this
  obtain ⟨σ, M, as, q1, q2, q3, q4, q5, q6, q7⟩ := take_args (Q := Q) (fun k hk => hk) h hr hv hw' hq (Rep.start w)
  obtain ⟨M', hM⟩ := hlaw as M q1.oks q5 q6 q7
  obtain ⟨-, hc⟩ := hC _ _ _ _ _ _ _ _ q1 q5 hM
  rw [q4] at hc
  exact hc.mono (fun e w' ⟨σ', he, _, hr', _, _⟩ => ⟨by rw [he]; rfl, hr'.below.low⟩)
theorem law_calls {call : CallF} (hC : CallOk P call) {f : FuncId} {n : Nat} {ts : List TypeId} {vs : List Value} {ds : List (DataW H)} {ps : List MemPlace} {rs : List (Bool × List AT)} {ts' : List TypeId} {gs : List (DataW H)}
    (h : DataW.TrodAll enc P w 0 (fun _ => true) true ts vs ds ps) (hr : argsOf P n ts = some rs)
    (hv : ∀ (j : Nat) t v, ts[j]? = some t → vs[j]? = some v → Value.okWide P w .any base t v) (hw : (DataW.weightsEach P (ts ++ ts') (ds ++ gs)).all (· ≤ reachBytes) = true)
    (hlaw : ∀ as M, M.Whole → okL M.n as → ShowsArgs M rs as → ∃ M', call f as M = some (.bool true, M')) :
    Calls P f vs.toArray w fun e w' => e = .returned (.bool true) ∧ Below w.heap.size w w' :=
  law_calls_q (Q := fun _ => False) hC h hr hv hw (fun _ h => h.elim) (fun as M h1 h2 h3 _ => hlaw as M h1 h2 h3)
theorem trodAll_again (hl : laidOutB P = true) {w' : World} (hb : Below w.heap.size w w') : ∀ {ts : List TypeId} {vs : List Value} {ds : List (DataW H)} {ps : List MemPlace}, (ts.all fun t => P.readableRec t && decide (t < P.types.size)) = true →
    DataW.TrodAll enc P w 0 (fun _ => true) true ts vs ds ps → DataW.TrodAll enc P w' 0 (fun b => decide (b < w.heap.size)) true ts vs ds ps
  | [], vs, ds, ps, _, h => by
    obtain ⟨rfl, rfl, rfl⟩ := trodAll_nil h
    exact trodAll_mk0
  | t :: ts, vs, ds, ps, ht, h => by
    obtain ⟨v, vs', d, ds', p, q, rfl, rfl, rfl, h1, h2⟩ := trodAll_cons h
    simp only [List.all_cons, Bool.and_eq_true, decide_eq_true_eq] at ht
    have lt : ∀ x ∈ p, x.block < w.heap.size := by obtain ⟨m, hm⟩ := h1; exact DataW.trod_lt m _ _ _ hm
    exact trodAll_cons_mk (Below.trod hl ht.1.1 ht.1.2 h1 hb lt) (trodAll_again hl hb (by simpa using ht.2) h2)
end
end Go.Abs
