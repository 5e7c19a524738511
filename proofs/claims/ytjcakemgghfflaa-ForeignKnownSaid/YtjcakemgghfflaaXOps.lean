import Derived.Test.YtjcakemgghfflaaXRep
set_option linter.unusedVariables false
set_option linter.unusedSimpArgs false
namespace Go.Abs
open Go.RowKit
theorem cond_none {β : Type} {c : Bool} {x : Option β} {r : β} : cond c x none = some r ↔ c = true ∧ x = some r := by cases c <;> simp
theorem none_cond {β : Type} {c : Bool} {x : Option β} {r : β} : cond c none x = some r ↔ c = false ∧ x = some r := by cases c <;> simp
theorem bind_some' {α β : Type} {x : Option α} {f : α → Option β} {r : β} : x.bind f = some r ↔ ∃ a, x = some a ∧ f a = some r := Option.bind_eq_some_iff
def okOpds : List Operand → List AOpd → Bool
  | [], [] => true
  | x :: xs, a :: as => okOpd x a && okOpds xs as
  | _, _ => false
def okO : Option Operand → Option AOpd → Bool
  | none, none => true
  | some x, some a => okOpd x a
  | _, _ => false
def evVs (fr : Fr) : List AOpd → Option (List AVal)
  | [] => some []
  | x :: xs => (evV fr x).bind fun v => (evVs fr xs).bind fun vs => some (v :: vs)
theorem evs_eq {β : Type} (fr : Fr) : ∀ (xs : List AOpd) (K : List AVal → Option β), evs fr xs K = (evVs fr xs).bind K
  | [], K => rfl
  | x :: xs, K => by
    simp only [evs, evVs, ev_eq, Option.bind_assoc]
    congr 1
    funext v
    rw [evs_eq fr xs]
    simp only [Option.bind_assoc, Option.bind_some]
def evVO (fr : Fr) : Option AOpd → Option (Option AVal)
  | none => some none
  | some x => (evV fr x).bind fun v => some (some v)
theorem evO_eq {β : Type} (fr : Fr) (x : Option AOpd) (K : Option AVal → Option β) : evO fr x K = (evVO fr x).bind K := by
  cases x with
  | none => rfl
  | some x => simp only [evO, evVO, ev_eq, Option.bind_assoc, Option.bind_some]
section
variable {σ : Env} {n : Nat} {fr : Fr} {act : Act}
theorem opds_ok (h : FrR σ n fr act.tmps) : ∀ {xs : List Operand} {as : List AOpd} {vs : List AVal}, okOpds xs as = true → evVs fr as = some vs → xs.map act.eval = concL σ vs ∧ okL n vs
  | [], [], vs, _, hv => by obtain rfl := Option.some.inj hv; simp [concL, okL]
  | x :: xs, a :: as, vs, ho, hv => by
    simp only [okOpds, Bool.and_eq_true] at ho
    simp only [evVs, bind_some'] at hv
    obtain ⟨v, h1, l, h2, h3⟩ := hv
    obtain rfl := Option.some.inj h3
    have e1 := opd_ok h ho.1 h1
    have e2 := opds_ok h ho.2 h2
    simp [concL, okL, e1, e2]
  | [], _ :: _, _, ho, _ => by simp [okOpds] at ho
  | _ :: _, [], _, ho, _ => by simp [okOpds] at ho
theorem opdO_ok (h : FrR σ n fr act.tmps) {x : Option Operand} {a : Option AOpd} {v : Option AVal} (ho : okO x a = true) (hv : evVO fr a = some v) :
    x.map act.eval = v.map (conc σ) ∧ ∀ y, v = some y → ok n y := by
  cases x <;> cases a <;> simp only [okO] at ho <;> try (cases ho; done)
  · obtain rfl := Option.some.inj hv; simp
  · simp only [evVO, bind_some'] at hv
    obtain ⟨w, h1, h2⟩ := hv
    obtain rfl := Option.some.inj h2
    have e := opd_ok h ho h1
    simp [e]
end
def Done (σ : Env) (B : Nat → Prop) (w0 : World) (M : Mem) (next : Act → World → Prop) (act : Act) (dst : Option Tmp) (v : AVal) (M' : Mem) : Prop :=
  ∀ σ' w', Rep σ' B w0 M' w' → Env.ext M.n σ σ' → M.n ≤ M'.n → ok M'.n v → next (act.put dst (conc σ' v)) w'
section
variable {P : Program} {σ : Env} {B : Nat → Prop} {w0 w : World} {M : Mem} {fr : Fr} {act : Act} {o : Oper} {next : Act → World → Prop} {Q : Exit → Act → World → Prop}
theorem wp_pure {v : AVal} (hr : Rep σ B w0 M w) (hrun : (execOp act.eval o).run P w = .ok (.value (conc σ v)) w) (hok : ok M.n v) (hd : Done σ B w0 M next act o.dst v M) : o.wp P act w next Q := by
  unfold Oper.wp
  rw [hrun, Oper.upon_value]
  exact hd σ w hr (Env.ext_refl _ _) (Nat.le_refl _) hok
end
theorem flat_cells {v : AVal} (h : v.flat = true) : v.cells.all AVal.flat = true := by
  cases v <;> first | (simp [AVal.flat] at h; done) | (simp only [AVal.cells, List.all_cons, List.all_nil, h]; rfl)
def zeroIs (P : Program) (t : TypeId) (zero : List AVal) : Bool := match (P.info? t).bind (·.zero) with
  | some z => (match absV z with
    | some v => sameL v.cells zero
    | none => false)
  | none => false
theorem zeroIs_run {P : Program} {t : TypeId} {zero : List AVal} (h : zeroIs P t zero = true) (σ : Env) (n : Nat) (w : World) :
    ∃ z, (zeroValue t).run P w = .ok z w ∧ z.cells = (concL σ zero).toArray ∧ okL n zero ∧ zero.all AVal.flat = true := by
  unfold zeroIs at h
  cases hi : P.info? t with
  | none => simp [hi] at h
  | some i =>
    cases hz : i.zero with
    | none => simp [hi, hz] at h
    | some z =>
      simp only [hi, hz, Option.bind_some] at h
      cases ha : absV z with
      | none => simp [ha] at h
      | some v =>
        rw [ha] at h
        have hs := sameL_eq _ _ h
        obtain ⟨h1, h2⟩ := absV_ok σ n z v ha
        refine ⟨z, ?_, ?_, ?_, ?_⟩
        · simp [zeroValue, typeInfo, hi, hz]
        · rw [← h1, conc_cells, hs]
        · rw [← hs]; exact ok_cells h2
        · rw [← hs]
          unfold absV at ha
          split at ha
          · rename_i cs
            cases hl : absL cs.toList with
            | none => simp [hl] at ha
            | some l =>
              simp only [hl, Option.bind_some, Option.some.injEq] at ha
              subst ha
              exact (absL_ok σ n _ l hl).2.2
          · exact flat_cells (absV1_ok σ n z v ha).2.2
def isAggB (P : Program) (t : TypeId) : Option Bool := (P.underlying t).map fun | .struct _ | .array _ _ => true | _ => false
theorem isAggB_run {P : Program} {t : TypeId} {b : Bool} (h : isAggB P t = some b) (w : World) : (isAgg t).run P w = .ok b w := by
  unfold isAggB at h
  cases hu : P.underlying t with
  | none => simp [hu] at h
  | some d =>
    simp only [hu, Option.map_some, Option.some.injEq] at h
    subst h
    unfold isAgg
    simp only [Sem.run_bind, run_underlying hu, Result.andThen_ok]
    cases d <;> rfl
def sizeB (P : Program) (t : TypeId) : Option Nat := (P.info? t).map (·.size)
theorem sizeB_run {P : Program} {t : TypeId} {n : Nat} (h : sizeB P t = some n) (w : World) : (sizeOf t).run P w = .ok n w := by
  unfold sizeB at h
  cases hi : P.info? t with
  | none => simp [hi] at h
  | some i =>
    simp only [hi, Option.map_some, Option.some.injEq] at h
    simp [sizeOf, typeInfo, hi, h]
def bytesB (P : Program) (t : TypeId) : Option Nat := (P.info? t).map (·.bytes)
theorem bytesB_run {P : Program} {t : TypeId} {n : Nat} (h : bytesB P t = some n) (w : World) : ∃ i, (typeInfo t).run P w = .ok i w ∧ i.bytes = n := by
  unfold bytesB at h
  cases hi : P.info? t with
  | none => simp [hi] at h
  | some i =>
    simp only [hi, Option.map_some, Option.some.injEq] at h
    exact ⟨i, by simp [typeInfo, hi], h⟩
section
variable {β : Type}
theorem ldT_some {M : Mem} {t : CTy} {o i : Nat} {K : AVal → Option β} {r : β} (h : M.ldT t o i K = some r) : ∃ v, M.ld o i = some v ∧ K v = some r := by
  cases t <;> simp only [Mem.ldT, Mem.ldI, Mem.ldB, Mem.ldS, Mem.ldP, Mem.ldL, Mem.ldM, Mem.ldF, Mem.ldN, bind_some'] at h <;>
    obtain ⟨x, ⟨v, hv, hx⟩, hk⟩ := h <;> refine ⟨v, hv, ?_⟩ <;> cases v <;>
    simp [AVal.int?, AVal.bool?, AVal.str?, AVal.ptr?, AVal.sl?, AVal.map?, AVal.fn?, AVal.ifc?, cond_none] at hx <;>
    first
      | (obtain ⟨rfl, rfl⟩ := hx; exact hk)
      | (subst hx; exact hk)
theorem ldTs_some {M : Mem} : ∀ {ts : List CTy} {o i : Nat} {K : List AVal → Option β} {r : β}, M.ldTs ts o i K = some r →
    ∃ vs, vs.length = ts.length ∧ (∀ j v, vs[j]? = some v → M.ld o (i + j) = some v) ∧ K vs = some r
  | [], o, i, K, r, h => ⟨[], rfl, by simp, h⟩
  | t :: ts, o, i, K, r, h => by
    obtain ⟨v, hv, h⟩ := ldT_some h
    obtain ⟨vs, hl, hvs, h⟩ := ldTs_some h
    refine ⟨v :: vs, by simp [hl], ?_, h⟩
    intro j x hj
    cases j with
    | zero => simp at hj; subst hj; simpa using hv
    | succ j => simp at hj; have := hvs j x hj; rw [← this]; congr 1; omega
theorem cast_some {v : AVal} {t : CTy} {K : AVal → Option β} {r : β} (h : v.cast t K = some r) : K v = some r := by
  cases t <;> cases v <;> simp [AVal.cast, AVal.int?, AVal.bool?, AVal.str?, AVal.ptr?, AVal.sl?, AVal.map?, AVal.fn?, AVal.ifc?, bind_some', cond_none] at h <;>
    first | exact h | (obtain ⟨a, ⟨rfl, rfl⟩, h⟩ := h; exact h) | (obtain ⟨rfl, h⟩ := h; exact h)
theorem castL_some : ∀ {ts : List CTy} {l : List AVal} {K : List AVal → Option β} {r : β}, castL ts l K = some r → K l = some r
  | [], l, K, r, h => by
    simp only [castL, cond_none] at h
    obtain ⟨h1, h2⟩ := h
    cases l with
    | nil => exact h2
    | cons x l => simp at h1
  | t :: ts, l, K, r, h => by
    simp only [castL, bind_some'] at h
    obtain ⟨v, hv, h⟩ := h
    have h := cast_some h
    have h := castL_some h
    cases l with
    | nil => simp at hv
    | cons x l => simp at hv; subst hv; exact h
theorem castR_some {v : AVal} {t : RTy} {K : AVal → Option β} {r : β} (h : v.castR t K = some r) : K v = some r := by
  cases t with
  | one t => exact cast_some h
  | agg ts =>
    simp only [AVal.castR, bind_some'] at h
    obtain ⟨l, hl, h⟩ := h
    have h := castL_some h
    cases v <;> simp [AVal.agg?] at hl
    subst hl; exact h
theorem castRL_some : ∀ {ts : List RTy} {l : List AVal} {K : List AVal → Option β} {r : β}, castRL ts l K = some r → K l = some r
  | [], l, K, r, h => by
    simp only [castRL, cond_none] at h
    obtain ⟨h1, h2⟩ := h
    cases l with
    | nil => exact h2
    | cons x l => simp at h1
  | t :: ts, l, K, r, h => by
    simp only [castRL, bind_some'] at h
    obtain ⟨v, hv, h⟩ := h
    have h := castR_some h
    have h := castRL_some h
    cases l with
    | nil => simp at hv
    | cons x l => simp at hv; subst hv; exact h
theorem castRs_some {v : AVal} {t : RTys} {K : AVal → Option β} {r : β} (h : v.castRs t K = some r) : K v = some r := by
  cases t with
  | r t => exact castR_some h
  | tup ts =>
    simp only [AVal.castRs, bind_some'] at h
    obtain ⟨l, hl, h⟩ := h
    have h := castRL_some h
    cases v <;> simp [AVal.tup?] at hl
    subst hl; exact h
end
theorem cAddr_add (σ : Env) (o i j : Nat) : (cAddr σ (o, i)).add j = cAddr σ (o, i + j) := by
  unfold Addr.add cAddr
  by_cases h : j = 0
  · simp [h]
  · simp [h, Nat.add_assoc]
section
variable {P : Program} {σ : Env} {B : Nat → Prop} {w0 w : World} {M : Mem}
theorem run_load1 (h : Rep σ B w0 M w) {o i : Nat} {v : AVal} (hv : M.ld o i = some v) (m : Go.Mode) : (load (cAddr σ (o, i)) m).run P w = .ok (conc σ v) w := by
  rw [Go.run_load, (h.cell hv).1]
theorem run_loads (h : Rep σ B w0 M w) {o i : Nat} {vs : List AVal} (hv : ∀ j v, vs[j]? = some v → M.ld o (i + j) = some v) :
    (loadCells (cAddr σ (o, i)) vs.length).run P w = .ok (concL σ vs).toArray w := by
  have := run_loadCells_list (P := P) w (cAddr σ (o, i)) (concL σ vs) (fun j v hj => by
    rw [concL_eq, List.getElem?_map] at hj
    cases hx : vs[j]? with
    | none => simp [hx] at hj
    | some x =>
      simp [hx] at hj
      subst hj
      rw [cAddr_add]
      exact (h.cell (hv j x hx)).1)
  rwa [concL_length] at this
theorem raw_some {o i n : Nat} {l : List AVal} (h : M.raw o i n = some l) : l.length = n ∧ ∀ j v, l[j]? = some v → M.ld o (i + j) = some v := by
  unfold Mem.raw at h
  simp only [bind_some', cond_none] at h
  obtain ⟨cs, hc, hle, h⟩ := h
  have h := Option.some.inj h
  have hle := Nat.le_of_ble_eq_true hle
  subst h
  refine ⟨by simp; omega, fun j v hj => ?_⟩
  simp only [Mem.ld, hc, Option.bind_some]
  rw [List.getElem?_take] at hj
  split at hj
  · rwa [List.getElem?_drop] at hj
  · cases hj
end
end Go.Abs
