import Derived.Test.YtjcakemgghfflaaXRen
set_option linter.unusedVariables false
set_option linter.unusedSimpArgs false
namespace Go.Abs
def Mem.ints (M : Mem) (k : IntKind) (a : Option (Nat × Nat)) (l : Nat) (c : Cap) : Option (List Int) :=
  (List.range l).mapM fun i => (slPtr a c).bind fun p => M.ldI k p.1 (p.2 + i)
theorem mapM_some {α β : Type} (f : α → Option β) : ∀ (l : List α) (r : List β), l.mapM f = some r ↔ r.length = l.length ∧ ∀ (i : Nat) (x : α), l[i]? = some x → ∃ y : β, r[i]? = some y ∧ f x = some y
  | [], r => by
    simp only [List.mapM_nil, List.length_nil, List.length_eq_zero_iff]
    constructor
    · intro h; exact ⟨(Option.some.inj h).symm, fun i x hx => by simp at hx⟩
    · rintro ⟨rfl, _⟩; rfl
  | a :: l, r => by
    rw [List.mapM_cons]
    constructor
    · intro h
      simp only [Option.bind_eq_bind, Option.bind_eq_some_iff, Option.pure_def] at h
      obtain ⟨y, hy, ys, hys, h⟩ := h
      obtain rfl := Option.some.inj h
      obtain ⟨h1, h2⟩ := (mapM_some f l ys).1 hys
      refine ⟨by simp [h1], fun i x hx => ?_⟩
      cases i with
      | zero => simp at hx; subst hx; exact ⟨y, rfl, hy⟩
      | succ i => simpa using h2 i x (by simpa using hx)
    · rintro ⟨h1, h2⟩
      cases r with
      | nil => simp at h1
      | cons y ys =>
        obtain ⟨z, hz, hf⟩ := h2 0 a rfl
        simp at hz; subst hz
        have : l.mapM f = some ys := (mapM_some f l ys).2 ⟨by simpa using h1, fun i x hx => by simpa using h2 (i + 1) x (by simpa using hx)⟩
        simp [hf, this]
theorem ints_iff {M : Mem} {k : IntKind} {a : Option (Nat × Nat)} {l : Nat} {c : Cap} {xs : List Int} :
    M.ints k a l c = some xs ↔ xs.length = l ∧ ∀ i, i < l → ∃ p, slPtr a c = some p ∧ M.ldI k p.1 (p.2 + i) = xs[i]? := by
  unfold Mem.ints
  rw [mapM_some]
  simp only [List.length_range]
  constructor
  · rintro ⟨h1, h2⟩
    refine ⟨h1, fun i hi => ?_⟩
    obtain ⟨y, hy, hf⟩ := h2 i i (by simp [hi])
    rw [Option.bind_eq_some_iff] at hf
    obtain ⟨p, hp, hf⟩ := hf
    exact ⟨p, hp, by rw [hy]; exact hf⟩
  · rintro ⟨h1, h2⟩
    refine ⟨h1, fun i x hx => ?_⟩
    have hi : i < l := by
      by_cases h : i < l
      · exact h
      · rw [List.getElem?_eq_none (by simpa using h)] at hx; cases hx
    simp [hi] at hx
    subst hx
    obtain ⟨p, hp, hf⟩ := h2 i hi
    rw [List.getElem?_eq_getElem (by omega)] at hf
    exact ⟨xs[i], by simp, by simp [hp, hf]⟩
theorem wrap_i64 {n : Int} (h0 : -9223372036854775808 ≤ n) (h1 : n < 9223372036854775808) : IntKind.wrap .i64 n = n := by
  unfold IntKind.wrap
  simp [IntKind.bits, IntKind.signed]
  split <;> omega
theorem ble_iff {a b : Nat} : Nat.ble a b = true ↔ a ≤ b := by rw [Nat.ble_eq]
theorem ble_false {a b : Nat} (h : ¬ a ≤ b) : Nat.ble a b = false := by
  cases hb : Nat.ble a b
  · rfl
  · exact absurd (ble_iff.1 hb) h
theorem beq_false {a b : Nat} (h : a ≠ b) : Nat.beq a b = false := by
  cases hb : Nat.beq a b
  · rfl
  · exact absurd (Nat.eq_of_beq_eq_true hb) h
@[simp] theorem asNat_int {β : Type} {fc : Bool} {k : IntKind} {n : Nat} {K : Nat → Option β} : asNat fc (.int k (n : Int)) K = K n := by simp [asNat]
@[simp] theorem asNatO_int {β : Type} {fc : Bool} {k : IntKind} {n d : Nat} {K : Nat → Option β} : asNatO fc (some (.int k (n : Int))) d K = K n := by simp [asNatO]
@[simp] theorem asNatO_none {β : Type} {fc : Bool} {d : Nat} {K : Nat → Option β} : asNatO fc none d K = K d := rfl
def Mem.room (M : Mem) (size : Nat) (a : Option (Nat × Nat)) (c : Cap) (m : Nat) : Bool := match c with
  | .known n => Nat.ble m n
  | .unk k => match a with
    | none => false
    | some p => match M.get p.1 with
      | none => false
      | some x => match x.live with
        | none => false
        | some cs => Nat.ble (p.2 + m * size) cs.length && Nat.beq p.2 (k * size) && (match x.kind with | .grow s => Nat.beq s size | .ro s => Nat.beq s size | _ => false)
  | .fin _ _ => false
  | .odd => false
theorem slcK_3 {β : Type} {M : Mem} {size : Nat} {a : Option (Nat × Nat)} {len : Nat} {c : Cap} {l h m : Nat} {kl kh km : IntKind} {K : Option (Nat × Nat) → Nat → Cap → Option β} (hr : M.room size a c m = true) (h1 : l ≤ h) (h2 : h ≤ m) :
    slcK false size a len c M (some (.int kl (l : Int))) (some (.int kh (h : Int))) (some (.int km (m : Int))) K = K (cond (Nat.beq m l) a (adv a (l * size))) (h - l) (.known (m - l)) := by
  unfold Mem.room at hr
  unfold slcK
  cases c with
  | known n => simp [hr, ble_iff.2 h1, ble_iff.2 h2]
  | fin _ _ => cases hr
  | odd => cases hr
  | unk k =>
    cases a with
    | none => cases hr
    | some p =>
      simp only at hr ⊢
      cases hx : M.get p.1 with
      | none => rw [hx] at hr; cases hr
      | some x =>
        rw [hx] at hr
        simp only at hr ⊢
        cases hl : x.live with
        | none => rw [hl] at hr; cases hr
        | some cs =>
          rw [hl] at hr
          simp only at hr
          simp only [asNat_int, asNatO_int, ble_iff.2 h1, ble_iff.2 h2, cond_true, Option.bind_some, hl]
          exact congrArg (fun b => cond b (K (cond (Nat.beq m l) (some p) (adv (some p) (l * size))) (h - l) (.known (m - l))) none) hr
theorem ldI_ld {M : Mem} {k : IntKind} {o i : Nat} {n : Int} : M.ldI k o i = some n ↔ M.ld o i = some (.int k n) := by
  unfold Mem.ldI
  rw [Option.bind_eq_some_iff]
  constructor
  · rintro ⟨v, hv, h⟩
    rw [hv]
    cases v <;> simp [AVal.int?, cond_none] at h
    obtain ⟨rfl, rfl⟩ := h
    rfl
  · intro h
    exact ⟨_, h, by simp [AVal.int?]⟩
theorem ints_raw {M : Mem} {k : IntKind} {a : Option (Nat × Nat)} {l : Nat} {c : Cap} {xs : List Int} (h : M.ints k a l c = some xs) (hl : 0 < l) : ∃ p, slPtr a c = some p ∧ M.raw p.1 p.2 l = some (xs.map (.int k)) := by
  obtain ⟨h1, h2⟩ := ints_iff.1 h
  obtain ⟨p, hp, h0⟩ := h2 0 hl
  have hall : ∀ i, (hi : i < l) → M.ld p.1 (p.2 + i) = some (.int k (xs[i]'(by omega))) := by
    intro i hi
    obtain ⟨q, hq, hv⟩ := h2 i hi
    rw [hp] at hq
    obtain rfl := Option.some.inj hq
    rw [List.getElem?_eq_getElem (by omega)] at hv
    exact ldI_ld.1 hv
  refine ⟨p, hp, ?_⟩
  unfold Mem.raw
  cases hc : M.cells p.1 with
  | none => have := hall 0 hl; simp [Mem.ld, hc] at this
  | some cs =>
    have hg : ∀ i, (hi : i < l) → cs[p.2 + i]? = some (.int k (xs[i]'(by omega))) := by
      intro i hi
      have := hall i hi
      simpa [Mem.ld, hc] using this
    have hlen : p.2 + l ≤ cs.length := by
      have := hg (l - 1) (by omega)
      have := (List.getElem?_eq_some_iff.1 this).1
      omega
    simp only [Option.bind_some, ble_iff.2 hlen, cond_true, Option.some.injEq]
    apply List.ext_getElem?
    intro i
    by_cases hi : i < l
    · rw [List.getElem?_take, if_pos hi, List.getElem?_drop, hg i hi, List.getElem?_map, List.getElem?_eq_getElem (by omega)]
      rfl
    · rw [List.getElem?_take, if_neg hi, List.getElem?_eq_none (by simp; omega)]
theorem firstOf_ints {β : Type} {M : Mem} {k : IntKind} {a : Option (Nat × Nat)} {l n : Nat} {c : Cap} {xs : List Int} {K : List AVal → Option β} (h : M.ints k a l c = some xs) : firstOf 1 M (.sl a n c) l K = K (xs.map (.int k)) := by
  unfold firstOf
  by_cases hl : l = 0
  · subst hl
    have : xs = [] := List.length_eq_zero_iff.1 (ints_iff.1 h).1
    simp [this]
  · obtain ⟨p, hp, hr⟩ := ints_raw h (by omega)
    simp [beq_false hl, hp, hr]
@[simp] theorem int?_int (k : IntKind) (n : Int) : (AVal.int k n).int? k = some n := by simp [AVal.int?]
theorem ld_lt {M : Mem} {o i : Nat} {v : AVal} (h : M.ld o i = some v) : o < M.n := by
  unfold Mem.ld Mem.cells at h
  cases hx : M.get o with
  | none => simp [hx] at h
  | some y => exact Mem.get_lt hx
theorem Fits.same {M M' : Mem} {v : AVal} (hM : M.Whole) (hn : ∀ o, o < M.n → M'.get o = M.get o) (hv : ok M.n v) : Fits id M (v, M) (v, M') := by
  refine ⟨fun _ _ => rfl, Nat.le_refl _, fun _ _ _ _ h => h, fun o x hx hk => ?_, hM, (ren_id (fun _ _ => rfl) v hv).symm, hv⟩
  show M'.get o = _
  rw [hn o (Mem.get_lt hx), hx, renL_id (ρ := id) (fun _ _ => rfl) _ (hM o x hx).1]
theorem get_alloc_lt {M : Mem} {x : AObj} {o : Nat} (h : o < M.n) : (M.alloc x).get o = M.get o := by rw [Mem.get_alloc, if_neg (by omega)]
theorem Fits.box {M : Mem} {x : AObj} {v : AVal} (hM : M.Whole) (hv : ok M.n v) : Fits id M (v, M) (v, M.alloc x) := Fits.same hM (fun o h => get_alloc_lt h) hv
theorem rvs : (∀ {α β : Type} (a : α) (f : α → Option β), (some a).bind f = f a) ∧ (∀ {α : Type} (a : α) (l : List α), (a :: l)[0]? = some a) ∧ (∀ {α : Type} (a : α) (l : List α) (n : Nat), (a :: l)[n + 1]? = l[n]?) ∧ (∀ b, (AVal.bool b).bool? = some b) ∧ (∀ p, (AVal.ptr p).ptr? = some p) ∧ (∀ a n c, (AVal.sl a n c).sl? = some (a, n, c)) ∧ (∀ l, (AVal.tup l).tup? = some l) ∧ (∀ l, (AVal.agg l).agg? = some l) ∧ (∀ t v, (AVal.ifc t v).ifc? = some (t, v)) ∧ (∀ f a b, (AVal.fn f a b).fn? = some (f, a, b)) ∧ (∀ s, (AVal.str s).str? = some s) ∧ (∀ {α : Type} (a : α) (l : List α), (a :: l).head? = some a) ∧ (∀ {α : Type} (a : α) (l : List α), (a :: l).tail = l) ∧ (∀ {α : Type}, ([] : List α).isEmpty = true) ∧ (∀ {α : Type} (a b : α), cond true a b = a) ∧ (∀ {α : Type} (a b : α), cond false a b = b) ∧ (∀ {α : Type} (a : α), (some a).isNone = false) ∧ (∀ {α : Type}, (none : Option α).isNone = true) ∧ (!true) = false ∧ (!false) = true ∧ decide True = true ∧ decide False = false ∧ (∀ a : Int, (a == a) = true) ∧ (∀ a : Nat, (a == a) = true) ∧ (∀ a : Bool, (a == a) = true) ∧ (∀ a : Int, (a != a) = false) ∧ (∀ a : Nat, (a != a) = false) ∧ (∀ a : Bool, (a != a) = false) := by
  refine ⟨fun _ _ => rfl, fun _ _ => rfl, fun _ _ _ => rfl, fun _ => rfl, fun _ => rfl, fun _ _ _ => rfl, fun _ => rfl, fun _ => rfl, fun _ _ => rfl, fun _ _ _ => rfl, fun _ => rfl, fun _ _ => rfl, fun _ _ => rfl, rfl, fun _ _ => rfl, fun _ _ => rfl, fun _ => rfl, rfl, rfl, rfl, rfl, rfl, ?_, ?_, ?_, ?_, ?_, ?_⟩ <;> simp
end Go.Abs
