import Derived.Test.YtjcakemgghfflaaXDrw5
set_option linter.unusedVariables false
set_option linter.unusedSimpArgs false
namespace Go.Abs
open Go.RowKit
def okC (P : Program) : AC → Code → Bool
  | .pt a, c => okC P a c
  | .kil _ a, c => okC P a c
  | .skip, .skip => true
  | .reg g _, .region _ ops false => isSz (okGL P ops g 0 [] 0) ops.size
  | .drw g ps _, .region _ ops true => isSz (okGL P ops g.toGL 0 [] 0) ops.size && (drwOk ops g.flat ps || drwOkW ops g.flat ps)
  | .seq a b, .seq c d => okC P a c && okC P b d
  | .cond x a b, .cond y c d => okOpd y x && okC P a c && okC P b d
  | .block i a, .block j c => Nat.beq i j && okC P a c
  | .loop a, .loop c => okC P a c
  | .exit i, .exit j => Nat.beq i j
  | .ret, .ret => true
  | _, _ => false
def okRes (P : Program) : List ARes → List ResultVar → Bool
  | [], [] => true
  | .tmp t :: rs, .tmp u :: vs => Nat.beq t u && okRes P rs vs
  | .cell1 a _ :: rs, .cell b ty :: vs => Nat.beq a b && (match isAggB P ty with | some b => !b | none => false) && okRes P rs vs
  | .cellA a ts :: rs, .cell b ty :: vs => Nat.beq a b && (match isAggB P ty with | some b => b | none => false) && isSz (sizeB P ty) ts.length && okRes P rs vs
  | _, _ => false
def okFn (P : Program) (f : FuncId) (F : AFunc) : Bool := match P.funcs[f]? with
  | some fn => (match fn.body with
    | some c => okC P F.body c
    | none => false) && Nat.beq fn.ntmps F.ntmps && okRes P F.results fn.results.toList && fn.name != "runtime.NumGoroutine"
  | none => false
def ItemR (P : Program) : AItem → Item → Prop
  | .code a, .code c => okC P a c = true
  | .inBlock i, .inBlock j => i = j
  | .inLoop a, .inLoop c => okC P a c = true
  | _, _ => False
def TodoR (P : Program) : List AItem → List Item → Prop
  | [], [] => True
  | a :: k, i :: l => ItemR P a i ∧ TodoR P k l
  | _, _ => False
section
variable {P : Program} {σ : Env} {B : Nat → Prop} {w0 w : World} {M : Mem} {fr : Fr} {fc : Bool}
theorem exit_ok {id : Nat} : ∀ {k k' : List AItem} {l : List Item}, exitA id k = some k' → TodoR P k l → ∃ l', exitTo id l = some l' ∧ TodoR P k' l'
  | [], k', l, h, _ => by simp [exitA] at h
  | .inBlock j :: k, k', l, h, ht => by
    cases l with
    | nil => exact ht.elim
    | cons i l =>
      obtain ⟨h1, h2⟩ := ht
      cases i <;> simp only [ItemR] at h1
      subst h1
      simp only [exitA] at h
      simp only [exitTo]
      by_cases e : j = id
      · subst e
        simp only [Nat.beq_refl, cond_true, Option.some.injEq] at h
        subst h
        exact ⟨l, by simp, h2⟩
      · have hb : Nat.beq j id = false := by
          cases hbb : Nat.beq j id
          · rfl
          · exact absurd (Nat.eq_of_beq_eq_true hbb) e
        rw [hb, cond_false] at h
        obtain ⟨l', q1, q2⟩ := exit_ok h h2
        refine ⟨l', ?_, q2⟩
        have : (j == id) = false := by simpa using e
        simp [this, q1]
  | .code a :: k, k', l, h, ht => by
    cases l with
    | nil => exact ht.elim
    | cons i l =>
      obtain ⟨h1, h2⟩ := ht
      cases i <;> simp only [ItemR] at h1
      simp only [exitA] at h
      obtain ⟨l', q1, q2⟩ := exit_ok h h2
      exact ⟨l', by simp [exitTo, q1], q2⟩
  | .inLoop a :: k, k', l, h, ht => by
    cases l with
    | nil => exact ht.elim
    | cons i l =>
      obtain ⟨h1, h2⟩ := ht
      cases i <;> simp only [ItemR] at h1
      simp only [exitA] at h
      obtain ⟨l', q1, q2⟩ := exit_ok h h2
      exact ⟨l', by simp [exitTo, q1], q2⟩
def resultOf (tmps : Array Value) (v : ResultVar) : Sem Value := match v with
  | .tmp t => pure (tmps.getD t undef)
  | .cell a t => do loadVar t (← asAddr (tmps.getD a undef))
theorem resK_run (hr : Rep σ B w0 M w) {tmps : Array Value} (hf : FrR σ M.n fr tmps) : ∀ {rs : List ARes} {vs : List ResultVar} {β : Type} {K : List AVal → Option β} {r : β}, okRes P rs vs = true → resK fr M rs K = some r →
    ∃ l, K l = some r ∧ (vs.mapM (resultOf tmps)).run P w = .ok (concL σ l) w ∧ okL M.n l
  | [], [], β, K, r, _, h => ⟨[], h, by simp [concL], by simp [okL]⟩
  | .tmp t :: rs, .tmp u :: vs, β, K, r, ho, h => by
    simp only [okRes, Bool.and_eq_true] at ho
    have := beq_t ho.1
    subst this
    simp only [resK, bind_some'] at h
    obtain ⟨v, hv, h⟩ := h
    obtain ⟨l, q1, q2, q3⟩ := resK_run hr hf ho.2 h
    obtain ⟨a1, a2⟩ := hf.val t v hv
    exact ⟨v :: l, q1, by simp only [List.mapM_cons, resultOf, Sem.run_bind, Sem.run_pure, Result.andThen_ok, q2, a2, concL], a1, q3⟩
  | .cell1 a c :: rs, .cell b ty :: vs, β, K, r, ho, h => by
    simp only [okRes, Bool.and_eq_true] at ho
    have := beq_t ho.1.1
    subst this
    obtain ⟨bb, hb, hb'⟩ := isAgg_t (f := fun b => !b) ho.1.2
    cases bb
    rotate_left
    · cases hb'
    simp only [resK, bind_some'] at h
    obtain ⟨v, hv, h⟩ := h
    replace h := ptrK_some h
    obtain ⟨q, i, rfl, h⟩ := h
    replace h := ldT_some h
    obtain ⟨u, hu, h⟩ := h
    obtain ⟨l, q1, q2, q3⟩ := resK_run hr hf ho.2 h
    obtain ⟨a1, a2⟩ := hf.val a _ hv
    have hl := run_load1 (P := P) hr hu .plain
    refine ⟨u :: l, q1, ?_, (hr.cell hu).2.1, q3⟩
    simp only [List.mapM_cons, resultOf, Sem.run_bind, a2, conc, Option.map_some, asAddr, Sem.run_pure, Result.andThen_ok, loadVar, isAggB_run hb, Bool.false_eq_true, if_false, hl, q2, concL]
  | .cellA a ts :: rs, .cell b ty :: vs, β, K, r, ho, h => by
    simp only [okRes, Bool.and_eq_true] at ho
    have := beq_t ho.1.1.1
    subst this
    obtain ⟨bb, hb, hb'⟩ := isAgg_t (f := fun b => b) ho.1.1.2
    cases bb
    · cases hb'
    have hsz := isSz_t ho.1.2
    simp only [resK, bind_some'] at h
    obtain ⟨v, hv, h⟩ := h
    replace h := ptrK_some h
    obtain ⟨q, i, rfl, h⟩ := h
    replace h := ldTs_some h
    obtain ⟨us, hlen, hus, h⟩ := h
    obtain ⟨l, q1, q2, q3⟩ := resK_run hr hf ho.2 h
    obtain ⟨a1, a2⟩ := hf.val a _ hv
    have hl := run_loads (P := P) hr hus
    rw [hlen] at hl
    have hall : okL M.n us ∧ us.all AVal.flat = true := by
      refine ⟨(okL_iff _ _).2 fun y hy => ?_, List.all_eq_true.2 fun y hy => ?_⟩ <;> obtain ⟨j, hj⟩ := List.mem_iff_getElem?.1 hy
      · exact (hr.cell (hus j y hj)).2.1
      · exact (hr.cell (hus j y hj)).2.2
    refine ⟨.agg us :: l, q1, ?_, by simp only [ok]; exact hall, q3⟩
    simp only [List.mapM_cons, resultOf, Sem.run_bind, a2, conc, Option.map_some, asAddr, Sem.run_pure, Result.andThen_ok, loadVar, isAggB_run hb, if_true, sizeB_run hsz, hl, q2, concL]
  | [], _ :: _, _, _, _, ho, _ => by simp [okRes] at ho
  | .tmp _ :: _, [], _, _, _, ho, _ => by simp [okRes] at ho
  | .cell1 _ _ :: _, [], _, _, _, ho, _ => by simp [okRes] at ho
  | .cellA _ _ :: _, [], _, _, _, ho, _ => by simp [okRes] at ho
  | .tmp _ :: _, .cell _ _ :: _, _, _, _, ho, _ => by simp [okRes] at ho
  | .cell1 _ _ :: _, .tmp _ :: _, _, _, _, ho, _ => by simp [okRes] at ho
  | .cellA _ _ :: _, .tmp _ :: _, _, _, _, ho, _ => by simp [okRes] at ho
theorem resOf_run (hr : Rep σ B w0 M w) {tmps : Array Value} (hf : FrR σ M.n fr tmps) {rs : List ARes} {fn : Func} {r : AVal × Mem} (ho : okRes P rs fn.results.toList = true) (h : resOf rs fr M = some r) :
    (results fn tmps).run P w = .ok (conc σ r.1) w ∧ ok r.2.n r.1 ∧ r.2 = M := by
  unfold resOf at h
  obtain ⟨l, h1, h2, h3⟩ := resK_run (P := P) hr hf ho h
  have hres : (results fn tmps).run P w = .ok (if h : (concL σ l).toArray.size = 1 then (concL σ l).toArray[0] else .tuple (concL σ l).toArray) w := by
    unfold results
    have key : ∀ f : ResultVar → Sem Value, (∀ x, f x = resultOf tmps x) → (fn.results.mapM f).run P w = .ok (concL σ l).toArray w := by
      intro f hfx
      obtain rfl : f = resultOf tmps := funext hfx
      rw [Array.mapM_eq_mapM_toList]
      simp only [Sem.run_map, h2, Result.andThen_ok]
    rw [Sem.run_bind, key _ (by intro x; cases x <;> rfl)]
    rfl
  cases l with
  | nil =>
    obtain rfl := Option.some.inj h1
    exact ⟨by rw [hres]; simp [concL, conc], by simp [ok, okL], rfl⟩
  | cons v l =>
    cases l with
    | nil =>
      obtain rfl := Option.some.inj h1
      exact ⟨by rw [hres]; simp [concL], h3.1, rfl⟩
    | cons u l =>
      obtain rfl := Option.some.inj h1
      exact ⟨by rw [hres]; simp [concL, conc], by simp only [ok]; exact h3, rfl⟩
def RunOk1 (P : Program) (rs : List ARes) (run : RunF) : Prop := ∀ (todo : List AItem) (fr : Fr) (M : Mem) (r : AVal × Mem), run todo fr M = some r →
  ∀ (σ : Env) (B : Nat → Prop) (w0 w : World) (act : Act) (b : Frame) (k : List Item) (cs : List Frame) (fn : Func), TodoR P todo k → Rep σ B w0 M w → FrR σ M.n fr act.tmps → act.defers = [] → okRes P rs fn.results.toList = true →
    ∃ act' w' todo' σ', Steps P (lone (b.at act k) cs w) (lone { b.at act' todo' with mode := .returning } cs w') ∧ act'.defers = [] ∧ (results fn act'.tmps).run P w' = .ok (conc σ' r.1) w' ∧
      ok r.2.n r.1 ∧ Rep σ' B w0 r.2 w' ∧ Env.ext M.n σ σ' ∧ M.n ≤ r.2.n
def RunOk (P : Program) (run : List ARes → RunF) : Prop := ∀ rs, RunOk1 P rs (run rs)
theorem RunOk1.call {run : RunF} {f : FuncId} {F : AFunc} (hk : okFn P f F = true) (h : RunOk1 P F.results run) {vs : List AVal} {r : AVal × Mem} (hr : Rep σ B w0 M w) (hvs : okL M.n vs)
    (hc : run [.code F.body] (frame0 F vs) M = some r) :
    okCallee P f = true ∧ Calls P f (concL σ vs).toArray w fun e w' => ∃ σ', e = .returned (conc σ' r.1) ∧ ok r.2.n r.1 ∧ Rep σ' B w0 r.2 w' ∧ Env.ext M.n σ σ' ∧ M.n ≤ r.2.n := by
  unfold okFn at hk
  cases hfu : P.funcs[f]? with
  | none => simp [hfu] at hk
  | some fn =>
    simp only [hfu, Bool.and_eq_true] at hk
    obtain ⟨⟨⟨h1, h2⟩, h3⟩, h4⟩ := hk
    cases hb : fn.body with
    | none => simp [hb] at h1
    | some c =>
      rw [hb] at h1
      have h2 := beq_t h2
      refine ⟨by simp only [okCallee, hfu, hb, Option.isSome_some, Bool.true_and]; exact h4, ?_⟩
      intro cs
      let b : Frame := { (default : Frame) with fn := f, kind := .normal }
      have henter : Frame.enter P f (concL σ vs).toArray .normal = b.at { tmps := (concL σ vs).toArray ++ Array.replicate (fn.ntmps - (concL σ vs).toArray.size) undef, defers := [] } [.code c] := by
        simp [Frame.enter, Frame.at, hfu, hb, b]
      have hfr : FrR σ M.n (frame0 F vs) ((concL σ vs).toArray ++ Array.replicate (fn.ntmps - (concL σ vs).toArray.size) undef) := by
        refine ⟨by simp [frame0, h2], fun t v hv => ?_⟩
        rw [Fr.g_eq] at hv
        simp only [frame0] at hv
        by_cases ht : t < vs.length
        · rw [List.getElem?_append_left (by simpa using ht)] at hv
          simp only [List.getElem?_map] at hv
          rw [List.getElem?_eq_getElem ht] at hv
          simp at hv
          subst hv
          refine ⟨(okL_iff _ _).1 hvs _ (List.getElem_mem ht), ?_⟩
          rw [Array.getD_eq_getD_getElem?, Array.getElem?_append_left (by simpa using ht)]
          simp [concL_eq, ht]
        · rw [List.getElem?_append_right (by simpa using Nat.le_of_not_lt ht)] at hv
          simp only [List.getElem?_replicate] at hv
          split at hv <;> simp at hv
      obtain ⟨act', w', todo', σ', q1, q2, q3, q4, q5, q6, q7⟩ := h _ _ _ _ hc σ B w0 w ⟨_, []⟩ b [.code c] cs fn ⟨h1, trivial⟩ hr hfr rfl h3
      rw [← henter] at q1
      exact ⟨.returned (conc σ' r.1), w', _, ⟨σ', rfl, q4, q5, q6, q7⟩, q1, rfl, rfl, q2, rfl, fn, hfu, q3⟩
theorem RunOk.call {A : AP} {run : List ARes → RunF} (hfn : ∀ f F, A.fn? f = some F → okFn P f F = true) (h : RunOk P run) : CallOk P (callBy A run) := by
  intro σ B w0 M w f vs r hr hvs hc
  simp only [callBy, bind_some'] at hc
  obtain ⟨F, hF, hc⟩ := hc
  exact RunOk1.call (hfn f F hF) (h F.results) hr hvs hc
theorem step_ok {call : CallF} {meth : MethF} {rs : List ARes} {run : RunF} (hmix : P.follows .mixedOrders = true) (hmeth : MethOk P meth) (hcall : CallOk P call) (h : RunOk1 P rs run) :
    RunOk1 P rs (stepF fc call meth run rs) := by
  intro todo fr M r he σ B w0 w act b k cs fn hk hr hf hdf hres
  have fin : resOf rs fr M = some r → ∀ todo', Steps P (lone (b.at act k) cs w) (lone { b.at act todo' with mode := .returning } cs w) → _ := fun he todo' hs =>
    (⟨act, w, todo', σ, hs, hdf, by obtain ⟨q1, q2, q3⟩ := resOf_run hr hf hres he; exact ⟨q1, q2, by rw [q3]; exact hr, Env.ext_refl _ _, by rw [q3]; exact Nat.le_refl _⟩⟩ :
      ∃ act' w' todo' σ', Steps P (lone (b.at act k) cs w) (lone { b.at act' todo' with mode := .returning } cs w') ∧ act'.defers = [] ∧ (results fn act'.tmps).run P w' = .ok (conc σ' r.1) w' ∧
      ok r.2.n r.1 ∧ Rep σ' B w0 r.2 w' ∧ Env.ext M.n σ σ' ∧ M.n ≤ r.2.n)
  have go : ∀ {todo2 : List AItem} {k2 : List Item}, run todo2 fr M = some r → TodoR P todo2 k2 → Steps P (lone (b.at act k) cs w) (lone (b.at act k2) cs w) →
      ∃ act' w' todo' σ', Steps P (lone (b.at act k) cs w) (lone { b.at act' todo' with mode := .returning } cs w') ∧ act'.defers = [] ∧ (results fn act'.tmps).run P w' = .ok (conc σ' r.1) w' ∧
      ok r.2.n r.1 ∧ Rep σ' B w0 r.2 w' ∧ Env.ext M.n σ σ' ∧ M.n ≤ r.2.n := by
    intro todo2 k2 he hk2 hs
    obtain ⟨act', w', todo', σ', q1, q⟩ := h _ _ _ _ he σ B w0 w act b k2 cs fn hk2 hr hf hdf hres
    exact ⟨act', w', todo', σ', hs.trans q1, q⟩
  cases todo with
  | nil =>
    cases k with
    | cons _ _ => exact hk.elim
    | nil => exact fin he [] (.one step_end)
  | cons i todo =>
    cases k with
    | nil => exact hk.elim
    | cons j k =>
      obtain ⟨hij, hk⟩ := hk
      cases i with
      | inBlock id =>
        cases j <;> simp only [ItemR] at hij
        exact go he hk (.one step_inBlock)
      | inLoop a =>
        cases j <;> simp only [ItemR] at hij
        exact go (k2 := .code _ :: .inLoop _ :: k) he ⟨hij, hij, hk⟩ (.one step_inLoop)
      | code a =>
        cases j <;> simp only [ItemR] at hij
        rename_i c
        cases a with
        | pt a => exact go (k2 := .code c :: k) he ⟨hij, hk⟩ (.refl _ _)
        | kil ts a =>
          obtain ⟨act', w', todo', σ', q1, q⟩ := h _ _ _ _ he σ B w0 w act b (.code c :: k) cs fn ⟨hij, hk⟩ hr (hf.kill ts) hdf hres
          exact ⟨act', w', todo', σ', q1, q⟩
        | skip =>
          cases c <;> simp only [okC] at hij <;> try (cases hij; done)
          exact go he hk (.one step_skip)
        | reg g kill =>
          cases c <;> try (simp [okC] at hij; done)
          rename_i id ops dr
          cases dr <;> simp only [okC] at hij <;> try (cases hij; done)
          have hok := isSz_t hij
          simp only [stepF] at he
          have hwp : (Code.region id ops false).wp P (fun e a' w' => e = .normal ∧ ∃ σ' M' fr', run todo (fr'.kill kill) M' = some r ∧ Rep σ' B w0 M' w' ∧ FrR σ' M'.n fr' a'.tmps ∧ a'.defers = [] ∧ Env.ext M.n σ σ' ∧ M.n ≤ M'.n) act w := by
            refine wp_region ?_
            have := gl_sound (ops := ops) (L := []) (Q := fun e a' w' => e = .normal ∧ ∃ σ' M' fr', run todo (fr'.kill kill) M' = some r ∧ Rep σ' B w0 M' w' ∧ FrR σ' M'.n fr' a'.tmps ∧ a'.defers = [] ∧ Env.ext M.n σ σ' ∧ M.n ≤ M'.n) hcall hmeth g hok he hr hf (fun x hx => by simp at hx)
              (fun σ' M' w' fr' act' q1 q2 q3 q4 q5 q6 _ => ⟨rfl, σ', M', fr', q1, q2, q3, by rw [q4, hdf], q5, q6⟩)
            rw [List.append_nil] at this
            have hfr : from_ 0 ops.size = List.range ops.size := by simp [from_, List.range_eq_range']
            rw [hfr] at this
            exact this
          obtain ⟨e, a', w', ⟨rfl, σ', M', fr', q1, q2, q3, q4, q5, q6⟩, harr⟩ := hwp b k cs
          obtain ⟨act', w'', todo', σ'', p1, p2, p3, p4, p5, p6, p7⟩ := h _ _ _ _ q1 σ' B w0 w' a' b k cs fn hk q2 (q3.kill kill) q4 hres
          exact ⟨act', w'', todo', σ'', Steps.trans harr p1, p2, p3, p4, p5, q5.trans p6 q6, Nat.le_trans q6 p7⟩
        | drw g ps kill =>
          cases c <;> try (simp [okC] at hij; done)
          rename_i id ops dr
          cases dr <;> simp only [okC] at hij <;> try (cases hij; done)
          simp only [Bool.and_eq_true] at hij
          have hok := isSz_t hij.1
          simp only [stepF] at he
          have hwp : (Code.region id ops true).wp P (fun e a' w' => e = .normal ∧ ∃ σ' M' fr', run todo (fr'.kill kill) M' = some r ∧ Rep σ' B w0 M' w' ∧ FrR σ' M'.n fr' a'.tmps ∧ a'.defers = [] ∧ Env.ext M.n σ σ' ∧ M.n ≤ M'.n) act w :=
            drwE_sound (K := fun fr M _ => run todo (fr.kill kill) M) hmix hcall hmeth hok hij.2 he hr hf (fun σ' M' w' fr' act' acc q1 q2 q3 q4 q5 q6 => ⟨rfl, σ', M', fr', q1, q2, q3, by rw [q4, hdf], q5, q6⟩)
          obtain ⟨e, a', w', ⟨rfl, σ', M', fr', q1, q2, q3, q4, q5, q6⟩, harr⟩ := hwp b k cs
          obtain ⟨act', w'', todo', σ'', p1, p2, p3, p4, p5, p6, p7⟩ := h _ _ _ _ q1 σ' B w0 w' a' b k cs fn hk q2 (q3.kill kill) q4 hres
          exact ⟨act', w'', todo', σ'', Steps.trans harr p1, p2, p3, p4, p5, q5.trans p6 q6, Nat.le_trans q6 p7⟩
        | seq a1 a2 =>
          cases c <;> simp only [okC, Bool.and_eq_true] at hij <;> try (cases hij; done)
          exact go (k2 := .code _ :: .code _ :: k) he ⟨hij.1, hij.2, hk⟩ (.one step_seq)
        | cond x a1 a2 =>
          cases c <;> simp only [okC, Bool.and_eq_true] at hij <;> try (cases hij; done)
          simp only [stepF, ev_eq, bind_some'] at he
          obtain ⟨v, hv, t, ht, he⟩ := he
          obtain rfl := bool?_some ht
          obtain ⟨e1, -⟩ := opd_ok hf hij.1.1 hv
          simp only [conc] at e1
          cases t with
          | true => exact go (k2 := .code _ :: k) he ⟨hij.1.2, hk⟩ (.one (by simpa using step_cond (P := P) (b := b) (k := k) (cs := cs) (w := w) e1))
          | false => exact go (k2 := .code _ :: k) he ⟨hij.2, hk⟩ (.one (by simpa using step_cond (P := P) (b := b) (k := k) (cs := cs) (w := w) e1))
        | block id a =>
          cases c <;> simp only [okC, Bool.and_eq_true] at hij <;> try (cases hij; done)
          exact go (k2 := .code _ :: .inBlock _ :: k) he ⟨hij.2, beq_t hij.1, hk⟩ (.one step_block)
        | loop a =>
          cases c <;> simp only [okC] at hij <;> try (cases hij; done)
          exact go (k2 := .code _ :: .inLoop _ :: k) he ⟨hij, hij, hk⟩ (.one step_loop)
        | exit id =>
          cases c <;> simp only [okC] at hij <;> try (cases hij; done)
          have := beq_t hij
          subst this
          simp only [stepF, bind_some'] at he
          obtain ⟨k', hk', he⟩ := he
          obtain ⟨l', q1, q2⟩ := exit_ok hk' hk
          exact go he q2 (.one (step_exit q1))
        | ret =>
          cases c <;> simp only [okC] at hij <;> try (cases hij; done)
          exact fin he _ (.one step_ret)
theorem run_step {A : AP} {run : List ARes → RunF} (hmix : P.follows .mixedOrders = true) (hmeth : MethOk P A.meth) (hfn : ∀ f F, A.fn? f = some F → okFn P f F = true) (h : RunOk P run) :
    RunOk P (fun rs => stepF fc (callBy A run) A.meth (run rs) rs) := fun rs => step_ok hmix hmeth (RunOk.call hfn h) (h rs)
end
end Go.Abs
