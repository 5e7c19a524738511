/- Loops: plain. -/
import Derived.Test.YtjfhapfdahdniaaXLib4
import Derived.Test.YtjfhapfdahdniaaXLib5
import Derived.Test.YtjfhapfdahdniaaXLib6
import Derived.Test.YtjfhapfdahdniaaXLib7
import Derived.Test.YtjfhapfdahdniaaXLaw
import Derived.Test.YtjfhapfdahdniaaXFc
set_option linter.unusedVariables false
set_option linter.unusedSimpArgs false
set_option linter.unnecessarySimpa false
namespace Go.Proofs.Ytjfhapfdahdniaa.M

section
variable (R E : Nat → Bool)
/-- The loops that stand open before a place, the innermost first. -/
def stk : Nat → List Nat
  | 0 => []
  | i + 1 => if R i then i :: stk i else if E i then (stk i).tail else stk i
/-- The place that has closed a loop, of the places below i. -/
def ea : Nat → Nat → Int
  | 0, _ => -1
  | i + 1, b => if !R i && E i && (stk R E i).head? == some b then (i : Int) else ea i b
def rk : Nat → Nat
  | 0 => 0
  | i + 1 => rk i + (if R i then 1 else 0)
end

section
variable {R E : Nat → Bool}
theorem stk_cons : ∀ (i : Nat) {b : Nat} {r : List Nat}, stk R E i = b :: r → b < i ∧ R b = true ∧ r = stk R E b := by
  intro i
  induction i using Nat.strongRecOn with
  | ind i ih =>
    intro b r h
    cases i with
    | zero => cases h
    | succ i =>
      rw [stk] at h
      by_cases hR : R i = true
      · rw [if_pos hR] at h
        cases h
        exact ⟨by omega, hR, rfl⟩
      · rw [if_neg hR] at h
        by_cases hE : E i = true
        · rw [if_pos hE] at h
          cases hs : stk R E i with
          | nil => rw [hs] at h; cases h
          | cons c t =>
            rw [hs] at h
            obtain ⟨h1, _, h3⟩ := ih i (by omega) hs
            rw [List.tail_cons, h3] at h
            obtain ⟨k1, k2, k3⟩ := ih c (by omega) h
            exact ⟨by omega, k2, k3⟩
        · rw [if_neg hE] at h
          obtain ⟨k1, k2, k3⟩ := ih i (by omega) h
          exact ⟨by omega, k2, k3⟩
theorem stk_split : ∀ (u : List Nat) (i : Nat) {b : Nat} {r : List Nat}, stk R E i = u ++ b :: r → b < i ∧ R b = true ∧ r = stk R E b
  | [], i, b, r, h => stk_cons i h
  | x :: u, i, b, r, h => by
    obtain ⟨h1, _, h3⟩ := stk_cons i h
    obtain ⟨k1, k2, k3⟩ := stk_split u x h3.symm
    exact ⟨by omega, k2, k3⟩
theorem stk_mem {i b : Nat} (h : b ∈ stk R E i) : (∃ u, stk R E i = u ++ b :: stk R E b) ∧ b < i ∧ R b = true := by
  obtain ⟨u, r, hu⟩ := List.append_of_mem h
  obtain ⟨h1, h2, h3⟩ := stk_split u i hu
  subst h3
  exact ⟨⟨u, hu⟩, h1, h2⟩
theorem stk_lt {i b : Nat} (h : b ∈ stk R E i) : b < i := (stk_mem h).2.1
theorem stk_R {i b : Nat} (h : b ∈ stk R E i) : R b = true := (stk_mem h).2.2
theorem stk_self (i : Nat) : i ∉ stk R E i := fun h => Nat.lt_irrefl _ (stk_lt h)
theorem stk_sorted (i : Nat) : (stk R E i).Pairwise (· > ·) := by
  induction i with
  | zero => exact List.Pairwise.nil
  | succ i ih =>
    rw [stk]
    split
    · exact List.pairwise_cons.2 ⟨fun b hb => stk_lt hb, ih⟩
    · split
      · exact ih.tail
      · exact ih
theorem stk_step {i b : Nat} (h : b ∈ stk R E (i + 1)) : (b = i ∧ R i = true) ∨ b ∈ stk R E i := by
  rw [stk] at h
  split at h
  · rename_i hR
    rcases List.mem_cons.1 h with h | h
    · exact .inl ⟨h, hR⟩
    · exact .inr h
  · split at h
    · exact .inr (List.mem_of_mem_tail h)
    · exact .inr h
theorem stk_back {i b : Nat} (hb : b < i) : ∀ d, b ∈ stk R E (i + d) → b ∈ stk R E i
  | 0, h => h
  | d + 1, h => by
    rcases stk_step (i := i + d) h with h | h
    · omega
    · exact stk_back hb d h
theorem stk_back' {i j b : Nat} (hb : b < i) (hj : i ≤ j) (h : b ∈ stk R E j) : b ∈ stk R E i := by
  obtain ⟨d, rfl⟩ : ∃ d, j = i + d := ⟨j - i, by omega⟩
  exact stk_back hb d h
theorem ea_small : ∀ {i b : Nat}, i ≤ b → ea R E i b = -1 := by
  intro i b h
  induction i with
  | zero => rfl
  | succ i ih =>
    rw [ea, if_neg, ih (by omega)]
    intro hc
    simp only [Bool.and_eq_true, beq_iff_eq] at hc
    have : b ∈ stk R E i := List.mem_of_mem_head? (by rw [hc.2]; rfl)
    have := stk_lt this
    omega
/-- A place that closes a loop. -/
def Clo (R E : Nat → Bool) (b e : Nat) : Prop := b < e ∧ R e = false ∧ E e = true ∧ stk R E e = b :: stk R E b
theorem Clo.next {b e : Nat} (h : Clo R E b e) : stk R E (e + 1) = stk R E b := by
  rw [stk, h.2.1, h.2.2.1, h.2.2.2]; rfl
theorem ea_mem {b : Nat} (hR : R b = true) : ∀ {i : Nat}, b < i → (b ∈ stk R E i → ea R E i b = -1) ∧ (b ∉ stk R E i → ∃ e, e < i ∧ Clo R E b e ∧ ea R E i b = (e : Int)) := by
  intro i
  induction i with
  | zero => intro h; omega
  | succ i ih =>
    intro hb
    by_cases hbi : b = i
    · subst hbi
      have e1 : stk R E (b + 1) = b :: stk R E b := by rw [stk, if_pos hR]
      have e2 : ea R E (b + 1) b = -1 := by rw [ea, hR]; simp [ea_small]
      exact ⟨fun _ => e2, fun h => absurd (by rw [e1]; exact List.mem_cons_self) h⟩
    · have hlt : b < i := by omega
      obtain ⟨i1, i2⟩ := ih hlt
      by_cases hRi : R i = true
      · have e1 : stk R E (i + 1) = i :: stk R E i := by rw [stk, if_pos hRi]
        have e2 : ea R E (i + 1) b = ea R E i b := by rw [ea, hRi]; simp
        rw [e1, e2]
        refine ⟨fun h => i1 ?_, fun h => ?_⟩
        · rcases List.mem_cons.1 h with h | h
          · omega
          · exact h
        · obtain ⟨e, k1, k2, k3⟩ := i2 (fun hh => h (List.mem_cons_of_mem _ hh))
          exact ⟨e, by omega, k2, k3⟩
      · by_cases hEi : E i = true
        · have e1 : stk R E (i + 1) = (stk R E i).tail := by rw [stk, if_neg hRi, if_pos hEi]
          cases hs : stk R E i with
          | nil =>
            have e2 : ea R E (i + 1) b = ea R E i b := by rw [ea, hs]; simp
            rw [e1, e2, hs]
            rw [hs] at i1 i2
            refine ⟨fun h => (by cases h), fun _ => ?_⟩
            obtain ⟨e, k1, k2, k3⟩ := i2 (by simp)
            exact ⟨e, by omega, k2, k3⟩
          | cons c t =>
            obtain ⟨c1, c2, c3⟩ := stk_cons i hs
            rw [e1, hs, List.tail_cons]
            by_cases hcb : c = b
            · subst hcb
              have e2 : ea R E (i + 1) c = (i : Int) := by rw [ea, hs]; simp [hRi, hEi]
              refine ⟨fun h => absurd (by rw [c3] at h; exact h) (stk_self c), fun _ => ⟨i, by omega, ⟨hlt, by simpa using hRi, hEi, by rw [hs, c3]⟩, e2⟩⟩
            · have e2 : ea R E (i + 1) b = ea R E i b := by rw [ea, hs]; simp [hcb]
              rw [e2]
              rw [hs] at i1 i2
              refine ⟨fun h => i1 (List.mem_cons_of_mem _ h), fun h => ?_⟩
              obtain ⟨e, k1, k2, k3⟩ := i2 (fun hh => by
                rcases List.mem_cons.1 hh with hh | hh
                · exact hcb hh.symm
                · exact h hh)
              exact ⟨e, by omega, k2, k3⟩
        · have e1 : stk R E (i + 1) = stk R E i := by rw [stk, if_neg hRi, if_neg hEi]
          have e2 : ea R E (i + 1) b = ea R E i b := by rw [ea]; simp [hEi]
          rw [e1, e2]
          refine ⟨i1, fun h => ?_⟩
          obtain ⟨e, k1, k2, k3⟩ := i2 h
          exact ⟨e, by omega, k2, k3⟩
theorem Clo.mem {b e j : Nat} (h : Clo R E b e) : b ∈ stk R E j ↔ b < j ∧ j ≤ e := by
  constructor
  · intro hj
    refine ⟨stk_lt hj, ?_⟩
    apply Nat.le_of_not_lt
    intro hlt
    have := stk_back' (i := e + 1) (by have := h.1; omega) (by omega) hj
    rw [h.next] at this
    exact stk_self b this
  · intro ⟨h1, h2⟩
    exact stk_back' h1 h2 (by rw [h.2.2.2]; exact List.mem_cons_self)
theorem Clo.inj {b e e' : Nat} (h : Clo R E b e) (h' : Clo R E b e') : e = e' := by
  have h1 := (h.mem (j := e')).1 (by rw [h'.2.2.2]; exact List.mem_cons_self)
  have h2 := (h'.mem (j := e)).1 (by rw [h.2.2.2]; exact List.mem_cons_self)
  omega
theorem Clo.inj' {b b' e : Nat} (h : Clo R E b e) (h' : Clo R E b' e) : b = b' := by
  have := h.2.2.2.symm.trans h'.2.2.2
  exact (List.cons.inj this).1
/-- With all closed, each loop has its end. -/
theorem clo_ex {n b : Nat} (h0 : stk R E n = []) (hb : b < n) (hR : R b = true) : ∃ e, e < n ∧ Clo R E b e ∧ ea R E n b = (e : Int) :=
  (ea_mem hR hb).2 (by rw [h0]; exact List.not_mem_nil)
theorem clo_of_end {i b : Nat} {r : List Nat} (hR : R i = false) (hE : E i = true) (hs : stk R E i = b :: r) : Clo R E b i := by
  obtain ⟨h1, h2, h3⟩ := stk_cons i hs
  exact ⟨h1, hR, hE, by rw [hs, h3]⟩
theorem rk_le : ∀ (d b : Nat), rk R b ≤ rk R (b + d)
  | 0, b => Nat.le_refl _
  | d + 1, b => Nat.le_trans (rk_le d b) (by show _ ≤ rk R (b + d) + _; omega)
theorem rk_lt {b c : Nat} (hR : R b = true) (h : b < c) : rk R b < rk R c := by
  obtain ⟨d, rfl⟩ : ∃ d, c = (b + 1) + d := ⟨c - (b + 1), by omega⟩
  have h1 : rk R (b + 1) = rk R b + 1 := by rw [rk, if_pos hR]
  have := rk_le (R := R) d (b + 1)
  omega
theorem rk_id : ∀ (b : Nat), rk R b ≤ b
  | 0 => Nat.le_refl _
  | b + 1 => by
    have := rk_id b
    rw [rk]
    split <;> omega
theorem rk_inj {b c : Nat} (hb : R b = true) (hc : R c = true) (h : rk R b = rk R c) : b = c := by
  rcases Nat.lt_trichotomy b c with h1 | h1 | h1
  · have := rk_lt hb h1; omega
  · exact h1
  · have := rk_lt hc h1; omega

/-- A loop: begin, end, times, depth. -/
abbrev Lo := Nat × Int × Int × Nat
def lps (R E : Nat → Bool) (T : Nat → Int) : Nat → List Lo
  | 0 => []
  | i + 1 => if R i then lps R E T i ++ [(i, -1, T i, (stk R E i).length + 1)] else if E i then (match stk R E i with
    | [] => lps R E T i
    | b :: _ => (lps R E T i).modify (rk R b) (fun x => (x.1, (i : Int), x.2.2))) else lps R E T i
theorem lps_length {T : Nat → Int} : ∀ i, (lps R E T i).length = rk R i
  | 0 => rfl
  | i + 1 => by
    rw [lps, rk]
    split
    · rw [List.length_append, lps_length i]; rfl
    · split
      · split
        · exact lps_length i
        · rw [List.length_modify]; exact lps_length i
      · exact lps_length i
theorem lps_get {T : Nat → Int} {b : Nat} (hR : R b = true) : ∀ {i : Nat}, b < i → (lps R E T i)[rk R b]? = some (b, ea R E i b, T b, (stk R E b).length + 1) := by
  intro i
  induction i with
  | zero => intro h; omega
  | succ i ih =>
    intro hb
    by_cases hbi : b = i
    · subst hbi
      rw [lps, if_pos hR, List.getElem?_append_right (by rw [lps_length]; omega), lps_length, Nat.sub_self]
      have e2 : ea R E (b + 1) b = -1 := by rw [ea, hR]; simp [ea_small]
      rw [e2]; rfl
    · have hlt : b < i := by omega
      have ih := ih hlt
      by_cases hRi : R i = true
      · have e2 : ea R E (i + 1) b = ea R E i b := by rw [ea, hRi]; simp
        rw [lps, if_pos hRi, List.getElem?_append_left (by rw [lps_length]; exact rk_lt hR hlt), ih, e2]
      · by_cases hEi : E i = true
        · rw [lps, if_neg hRi, if_pos hEi]
          cases hs : stk R E i with
          | nil =>
            have e2 : ea R E (i + 1) b = ea R E i b := by rw [ea, hs]; simp
            rw [e2]; exact ih
          | cons c t =>
            obtain ⟨c1, c2, c3⟩ := stk_cons i hs
            show ((lps R E T i).modify (rk R c) _)[rk R b]? = _
            rw [List.getElem?_modify, ih]
            by_cases hcb : c = b
            · subst hcb
              have e2 : ea R E (i + 1) c = (i : Int) := by rw [ea, hs]; simp [hRi, hEi]
              rw [e2]; simp
            · have e2 : ea R E (i + 1) b = ea R E i b := by rw [ea, hs]; simp [hcb]
              have hne : rk R c ≠ rk R b := fun h => hcb (rk_inj c2 hR h)
              rw [e2]; simp [hne]
        · have e2 : ea R E (i + 1) b = ea R E i b := by rw [ea]; simp [hEi]
          rw [lps, if_neg hRi, if_neg hEi, e2]; exact ih
theorem lps_all {T : Nat → Int} : ∀ {i k : Nat}, k < rk R i → ∃ b, b < i ∧ R b = true ∧ rk R b = k := by
  intro i k h
  induction i with
  | zero => simp [rk] at h
  | succ i ih =>
    rw [rk] at h
    by_cases hR : R i = true
    · rw [if_pos hR] at h
      by_cases hk : k = rk R i
      · exact ⟨i, by omega, hR, hk.symm⟩
      · obtain ⟨b, h1, h2, h3⟩ := ih (by omega)
        exact ⟨b, by omega, h2, h3⟩
    · rw [if_neg hR] at h
      obtain ⟨b, h1, h2, h3⟩ := ih (by omega)
      exact ⟨b, by omega, h2, h3⟩
end

/-! ## What is left of a run. -/
section
variable (R E : Nat → Bool) (T : Nat → Nat)
def prd (l : List Nat) : Nat := l.foldr (fun b a => T b * a) 1
def relw (d i : Nat) : Nat := prd T ((stk R E i).take ((stk R E i).length - d))
def sm (d a b : Nat) : Nat := ((List.range' a (b - a)).map (relw R E T d)).sum
def rem (n : Nat) (clo left : Nat → Nat) : List Nat → Nat → Nat
  | [], at_ => sm R E T 0 at_ n
  | b :: s, at_ => sm R E T (s.length + 1) at_ (clo b + 1) + (left b - 1) * sm R E T (s.length + 1) (b + 1) (clo b + 1) + rem n clo left s (clo b + 1)
end
section
variable {R E : Nat → Bool} {T : Nat → Nat} {n : Nat} {clo left left' : Nat → Nat}
theorem prd_append (l l' : List Nat) : prd T (l ++ l') = prd T l * prd T l' := by
  induction l with
  | nil => simp [prd]
  | cons b l ih =>
    show T b * prd T (l ++ l') = T b * prd T l * prd T l'
    rw [ih, Nat.mul_assoc]
theorem sm_split {d a b c : Nat} (h1 : a ≤ b) (h2 : b ≤ c) : sm R E T d a c = sm R E T d a b + sm R E T d b c := by
  obtain ⟨x, rfl⟩ : ∃ x, b = a + x := ⟨b - a, by omega⟩
  obtain ⟨y, rfl⟩ : ∃ y, c = a + x + y := ⟨c - (a + x), by omega⟩
  unfold sm
  rw [show a + x + y - a = x + y from by omega, show a + x - a = x from by omega, show a + x + y - (a + x) = y from by omega,
    ← List.range'_append_1, List.map_append, List.sum_append]
theorem sm_head {d a b : Nat} (h : a < b) : sm R E T d a b = relw R E T d a + sm R E T d (a + 1) b := by
  rw [sm_split (b := a + 1) (by omega) (by omega)]
  congr 1
  unfold sm
  rw [show a + 1 - a = 1 from by omega]
  simp [List.range']
theorem sm_nil {d a b : Nat} (h : b ≤ a) : sm R E T d a b = 0 := by
  unfold sm
  rw [show b - a = 0 from by omega]; rfl
theorem sm_anti {d x y c : Nat} (h : x ≤ y) : sm R E T d y c ≤ sm R E T d x c := by
  by_cases hc : y ≤ c
  · rw [sm_split (a := x) h hc]; omega
  · rw [sm_nil (by omega)]; omega
theorem sm_mul {d d' k a b : Nat} (h : ∀ i, a ≤ i → i < b → relw R E T d i = k * relw R E T d' i) : sm R E T d a b = k * sm R E T d' a b := by
  by_cases hab : a ≤ b
  · obtain ⟨x, rfl⟩ : ∃ x, b = a + x := ⟨b - a, by omega⟩
    induction x generalizing a with
    | zero => rw [sm_nil (by omega), sm_nil (by omega)]; simp
    | succ x ih =>
      rw [sm_head (by omega), sm_head (d := d') (by omega), h a (by omega) (by omega), show a + (x + 1) = a + 1 + x from by omega, ih (fun i h1 h2 => h i (by omega) (by omega)) (by omega), Nat.mul_add]
  · rw [sm_nil (by omega), sm_nil (by omega)]; simp
theorem relw_self (i : Nat) : relw R E T (stk R E i).length i = 1 := by
  unfold relw; rw [Nat.sub_self]; rfl
theorem rem_congr : ∀ {s : List Nat} {x : Nat}, (∀ b ∈ s, left b = left' b) → rem R E T n clo left s x = rem R E T n clo left' s x
  | [], x, _ => rfl
  | b :: s, x, h => by
    rw [rem, rem, h b List.mem_cons_self, rem_congr (fun c hc => h c (List.mem_cons_of_mem _ hc))]
theorem rem_anti {s : List Nat} {x y : Nat} (h : x ≤ y) : rem R E T n clo left s y ≤ rem R E T n clo left s x := by
  cases s with
  | nil => exact sm_anti h
  | cons b s =>
    rw [rem, rem]
    have := sm_anti (R := R) (E := E) (T := T) (d := s.length + 1) (c := clo b + 1) h
    omega
theorem rem_pop {s : List Nat} {y : Nat} : ∀ {u : List Nat} {x : Nat}, x ≤ y → (∀ b ∈ u, clo b + 1 ≤ y) → rem R E T n clo left s y ≤ rem R E T n clo left (u ++ s) x
  | [], x, hx, _ => rem_anti hx
  | b :: u, x, hx, hu => by
    have := rem_pop (s := s) (y := y) (u := u) (x := clo b + 1) (hu b List.mem_cons_self) (fun c hc => hu c (List.mem_cons_of_mem _ hc))
    rw [List.cons_append, rem]
    omega
theorem rem_next {x : Nat} (hx : x < n) (hs : ∀ b, b ∈ stk R E x → x ≤ clo b) : rem R E T n clo left (stk R E x) x = 1 + rem R E T n clo left (stk R E x) (x + 1) := by
  cases h : stk R E x with
  | nil =>
    have e := relw_self (R := R) (E := E) (T := T) x
    rw [h] at e
    rw [rem, rem, sm_head hx]
    exact congrArg (· + _) e
  | cons b s =>
    have e := relw_self (R := R) (E := E) (T := T) x
    rw [h] at e
    have := hs b (by rw [h]; exact List.mem_cons_self)
    rw [rem, rem, sm_head (a := x) (by omega)]
    rw [show relw R E T (s.length + 1) x = 1 from e]
    omega
/-- The ends of the loops of a program all of whose loops are closed. -/
def Ends (R E : Nat → Bool) (n : Nat) (clo : Nat → Nat) : Prop := ∀ b, b < n → R b = true → clo b < n ∧ Clo R E b (clo b)
theorem rem_rep (hc : Ends R E n clo) {x : Nat} (hx : x < n) (hR : R x = true) (hl : left x = T x) (hT : 1 ≤ T x) :
    rem R E T n clo left (stk R E x) x = 1 + rem R E T n clo left (stk R E (x + 1)) (x + 1) := by
  obtain ⟨c1, c2⟩ := hc x hx hR
  have e1 : stk R E (x + 1) = x :: stk R E x := by rw [stk, if_pos hR]
  have hm : sm R E T (stk R E x).length (x + 1) (clo x + 1) = T x * sm R E T ((stk R E x).length + 1) (x + 1) (clo x + 1) := by
    apply sm_mul
    intro i h1 h2
    obtain ⟨⟨u, hu⟩, -, -⟩ := stk_mem ((c2.mem (j := i)).2 ⟨by omega, by omega⟩)
    unfold relw
    rw [hu]
    have l1 : (u ++ x :: stk R E x).length - (stk R E x).length = u.length + 1 := by simp; omega
    have l2 : (u ++ x :: stk R E x).length - ((stk R E x).length + 1) = u.length := by simp
    rw [l1, l2]
    have t1 : (u ++ x :: stk R E x).take (u.length + 1) = u ++ [x] := by
      rw [List.take_append]; simp [List.take_of_length_le]
    have t2 : (u ++ x :: stk R E x).take u.length = u := by simp
    rw [t1, t2, prd_append]
    show prd T u * (T x * 1) = _
    rw [Nat.mul_one, Nat.mul_comm]
  have hsplit : rem R E T n clo left (stk R E x) x = sm R E T (stk R E x).length x (clo x + 1) + rem R E T n clo left (stk R E x) (clo x + 1) := by
    cases h : stk R E x with
    | nil =>
      rw [rem, rem]
      exact sm_split (by have := c2.1; omega) (by omega)
    | cons b s =>
      obtain ⟨b1, b2, b3⟩ := stk_cons x h
      obtain ⟨k1, k2⟩ := hc b (by omega) b2
      have : clo x ≤ clo b := ((k2.mem (j := clo x)).1 (by rw [c2.2.2.2, h]; exact List.mem_cons_of_mem _ List.mem_cons_self)).2
      rw [rem, rem, sm_split (a := x) (b := clo x + 1) (c := clo b + 1) (by have := c2.1; omega) (by omega), List.length_cons]
      omega
  rw [hsplit, e1, rem, hl, sm_head (by have := c2.1; omega), relw_self, hm]
  have : T x * sm R E T ((stk R E x).length + 1) (x + 1) (clo x + 1) = sm R E T ((stk R E x).length + 1) (x + 1) (clo x + 1) + (T x - 1) * sm R E T ((stk R E x).length + 1) (x + 1) (clo x + 1) := by
    obtain ⟨t, ht⟩ : ∃ t, T x = t + 1 := ⟨T x - 1, by omega⟩
    rw [ht, Nat.add_sub_cancel, Nat.succ_mul]; omega
  omega
theorem rem_go (hc : Ends R E n clo) {x y : Nat} (hx : x < n) (hxy : x < y) (hR : R x = false) (hsub : ∀ b, b ∈ stk R E y → b ∈ stk R E x) :
    rem R E T n clo left (stk R E y) y + 1 ≤ rem R E T n clo left (stk R E x) x := by
  have hs : ∀ b, b ∈ stk R E x → x ≤ clo b := fun b hb => by
    obtain ⟨-, h2, h3⟩ := stk_mem hb
    exact (((hc b (by omega) h3).2.mem (j := x)).1 hb).2
  rw [rem_next hx hs]
  obtain ⟨u, hu⟩ : ∃ u, stk R E x = u ++ stk R E y := by
    cases h : stk R E y with
    | nil => exact ⟨_, (List.append_nil _).symm⟩
    | cons b r =>
      obtain ⟨-, -, h3⟩ := stk_cons y h
      obtain ⟨⟨u, hu⟩, -, -⟩ := stk_mem (hsub b (by rw [h]; exact List.mem_cons_self))
      exact ⟨u, by rw [h3, hu]⟩
  have hp := rem_pop (R := R) (E := E) (T := T) (n := n) (clo := clo) (left := left) (s := stk R E y) (y := y) (u := u) (x := x + 1) (by omega) (fun b hb => by
    have hbx : b ∈ stk R E x := by rw [hu]; exact List.mem_append_left _ hb
    obtain ⟨-, h2, h3⟩ := stk_mem hbx
    have hn : b ∉ stk R E y := fun hy => by
      have := stk_sorted (R := R) (E := E) x
      rw [hu, List.pairwise_append] at this
      exact Nat.lt_irrefl _ (this.2.2 b hb b hy)
    have := mt ((hc b (by omega) h3).2.mem (j := y)).2 hn
    omega)
  rw [hu]
  omega
theorem rem_end (hc : Ends R E n clo) {x b : Nat} {s : List Nat} (hx : x < n) (hR : R x = false) (hE : E x = true) (hs : stk R E x = b :: s) :
    rem R E T n clo left (stk R E x) x = 1 + (left b - 1) * sm R E T (s.length + 1) (b + 1) (x + 1) + rem R E T n clo left s (x + 1) ∧ stk R E (x + 1) = s ∧ s = stk R E b ∧ b < x ∧ R b = true ∧ clo b = x := by
  obtain ⟨h1, h2, h3⟩ := stk_cons x hs
  have hcl := clo_of_end hR hE hs
  have e : clo b = x := (hc b (by omega) h2).2.inj hcl
  refine ⟨?_, by rw [hcl.next, h3], h3, h1, h2, e⟩
  have e1 := relw_self (R := R) (E := E) (T := T) x
  rw [hs] at e1
  rw [hs, rem, e, sm_head (a := x) (by omega), sm_nil (a := x + 1) (by omega)]
  rw [show relw R E T (s.length + 1) x = 1 from e1]
/-- An OpEnd that goes back. -/
theorem rem_again (hc : Ends R E n clo) {x b : Nat} {s : List Nat} (hx : x < n) (hR : R x = false) (hE : E x = true) (hs : stk R E x = b :: s) (hl : 2 ≤ left b) (hl' : left' b = left b - 1) (ho : ∀ c ∈ s, left' c = left c) :
    rem R E T n clo left' (stk R E (b + 1)) (b + 1) + 1 ≤ rem R E T n clo left (stk R E x) x := by
  obtain ⟨h1, h2, h3, h4, h5, h6⟩ := rem_end (T := T) (left := left) hc hx hR hE hs
  have e1 : stk R E (b + 1) = b :: s := by rw [stk, if_pos h5, h3]
  rw [h1, e1, rem, h6, hl', rem_congr (left := left') (left' := left) ho]
  obtain ⟨t, ht⟩ : ∃ t, left b = t + 2 := ⟨left b - 2, by omega⟩
  rw [ht, show t + 2 - 1 = t + 1 from by omega, show t + 1 - 1 = t from by omega, Nat.succ_mul]
  omega
theorem rem_out (hc : Ends R E n clo) {x b : Nat} {s : List Nat} (hx : x < n) (hR : R x = false) (hE : E x = true) (hs : stk R E x = b :: s) (ho : ∀ c ∈ s, left' c = left c) :
    rem R E T n clo left' (stk R E (x + 1)) (x + 1) + 1 ≤ rem R E T n clo left (stk R E x) x := by
  obtain ⟨h1, h2, h3, h4, h5, h6⟩ := rem_end (T := T) (left := left) hc hx hR hE hs
  rw [h1, h2, rem_congr (left := left') (left' := left) ho]
  omega
theorem rem_pos (hc : Ends R E n clo) {x : Nat} (hx : x < n) : 1 ≤ rem R E T n clo left (stk R E x) x := by
  rw [rem_next hx (fun b hb => by
    obtain ⟨-, h2, h3⟩ := stk_mem hb
    exact (((hc b (by omega) h3).2.mem (j := x)).1 hb).2)]
  omega
end
end Go.Proofs.Ytjfhapfdahdniaa.M
