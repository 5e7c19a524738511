import Derived.Test.YtjcakemgghfflaaXLib2
set_option linter.unusedVariables false
set_option linter.unusedSimpArgs false
namespace Go.Abs
def Sl {α : Type} (M : Mem) (s : Nat) (enc : α → List AVal) (a : Option (Nat × Nat)) (l : Nat) (c : Cap) (xs : List α) : Prop := M.raws s a l c = some (xs.flatMap enc) ∧ xs.length = l
def Enc {α : Type} (s : Nat) (enc : α → List AVal) : Prop := ∀ x, (enc x).length = s
theorem flatMap_length {α : Type} {s : Nat} {enc : α → List AVal} (h : Enc s enc) : ∀ xs : List α, (xs.flatMap enc).length = xs.length * s
  | [] => by simp
  | x :: xs => by rw [List.flatMap_cons, List.length_append, h x, flatMap_length h xs, List.length_cons, Nat.add_mul, Nat.one_mul, Nat.add_comm]
theorem flatMap_get {α : Type} {s : Nat} {enc : α → List AVal} (h : Enc s enc) : ∀ (xs : List α) (i f : Nat) (hi : i < xs.length), f < s → (xs.flatMap enc)[i * s + f]? = (enc xs[i])[f]?
  | [], i, f, hi, _ => by simp at hi
  | x :: xs, 0, f, hi, hf => by
    rw [List.flatMap_cons, Nat.zero_mul, Nat.zero_add, List.getElem?_append_left (by rw [h x]; exact hf)]
    rfl
  | x :: xs, i + 1, f, hi, hf => by
    rw [List.flatMap_cons, List.getElem?_append_right (by rw [h x, Nat.add_mul]; omega), h x, show (i + 1) * s + f - s = i * s + f from by rw [Nat.add_mul]; omega]
    simp only [List.getElem_cons_succ]
    exact flatMap_get h xs i f (by simpa using hi) hf
theorem flatMap_drop {α : Type} {s : Nat} {enc : α → List AVal} (h : Enc s enc) : ∀ (xs : List α) (i : Nat), (xs.flatMap enc).drop (i * s) = (xs.drop i).flatMap enc
  | [], i => by simp
  | x :: xs, 0 => by simp
  | x :: xs, i + 1 => by
    rw [List.flatMap_cons, List.drop_succ_cons, Nat.add_mul, Nat.one_mul, Nat.add_comm, ← List.drop_drop, List.drop_append]
    have : List.drop s (enc x) = [] := List.drop_eq_nil_of_le (by rw [h x]; exact Nat.le_refl _)
    rw [this, h x, Nat.sub_self, List.drop_zero, List.nil_append, flatMap_drop h xs i]
theorem flatMap_take {α : Type} {s : Nat} {enc : α → List AVal} (h : Enc s enc) : ∀ (xs : List α) (i : Nat), (xs.flatMap enc).take (i * s) = (xs.take i).flatMap enc
  | [], i => by simp
  | x :: xs, 0 => by simp
  | x :: xs, i + 1 => by
    rw [List.flatMap_cons, List.take_succ_cons, List.flatMap_cons, Nat.add_mul, Nat.one_mul, List.take_append, List.take_of_length_le (by rw [h x]; omega), h x, Nat.add_sub_cancel, flatMap_take h xs i]
theorem Sl.length {α : Type} {M : Mem} {s : Nat} {enc : α → List AVal} {a : Option (Nat × Nat)} {l : Nat} {c : Cap} {xs : List α} (h : Sl M s enc a l c xs) : xs.length = l := h.2
theorem Sl.nil {α : Type} (M : Mem) (s : Nat) (enc : α → List AVal) (a : Option (Nat × Nat)) (c : Cap) : Sl M s enc a 0 c [] := ⟨rfl, rfl⟩
theorem Sl.zero {α : Type} {M : Mem} {s : Nat} {enc : α → List AVal} {a : Option (Nat × Nat)} {c : Cap} {xs : List α} (h : Sl M s enc a 0 c xs) : xs = [] := List.length_eq_zero_iff.1 h.2
theorem Sl.get {α : Type} {M : Mem} {s : Nat} {enc : α → List AVal} {a : Option (Nat × Nat)} {l : Nat} {c : Cap} {xs : List α} (h : Sl M s enc a l c xs) (he : Enc s enc) (hs : 0 < s) {i : Nat} (hi : i < l) :
    ∃ p, slPtr a c = some p ∧ ∀ f, f < s → M.ld p.1 (p.2 + (i * s + f)) = (enc (xs[i]'(by rw [h.2]; exact hi)))[f]? := by
  have hil : i < xs.length := by rw [h.2]; exact hi
  have hlt : ∀ f, f < s → i * s + f < l * s := fun f hf => by
    have := Nat.mul_le_mul_right s (show i + 1 ≤ l from hi)
    rw [Nat.add_mul, Nat.one_mul] at this
    omega
  obtain ⟨p, hp, _⟩ := raws_get h.1 (hlt 0 hs)
  refine ⟨p, hp, fun f hf => ?_⟩
  obtain ⟨q, hq, hv⟩ := raws_get h.1 (hlt f hf)
  rw [hp] at hq
  obtain rfl := Option.some.inj hq
  rw [hv, flatMap_get he xs i f hil hf]
theorem Sl.same {α : Type} {M M' : Mem} {s : Nat} {enc : α → List AVal} {a : Option (Nat × Nat)} {l : Nat} {c : Cap} {xs : List α} (h : Sl M s enc a l c xs) (hg : ∀ p, a = some p → M'.get p.1 = M.get p.1) : Sl M' s enc a l c xs :=
  ⟨by rw [raws_same hg]; exact h.1, h.2⟩
theorem Sl.lt {α : Type} {M : Mem} {s : Nat} {enc : α → List AVal} {o i : Nat} {l : Nat} {c : Cap} {xs : List α} (h : Sl M s enc (some (o, i)) l c xs) (he : Enc s enc) (hs : 0 < s) (hl : 0 < l) : o < M.n := by
  obtain ⟨p, hp, hv⟩ := h.get he hs hl
  have := (slPtr_some hp).1
  simp only [Option.some.injEq] at this
  subst this
  have h0 := hv 0 hs
  rw [List.getElem?_eq_getElem (by rw [he]; exact hs)] at h0
  exact ld_lt h0
theorem Sl.upto {α : Type} {M M' : Mem} {s : Nat} {enc : α → List AVal} {a : Option (Nat × Nat)} {l : Nat} {c : Cap} {xs : List α} (h : Sl M s enc a l c xs) (he : Enc s enc) (hs : 0 < s) (hu : M.Upto M') : Sl M' s enc a l c xs := by
  by_cases hl : 0 < l
  · refine h.same fun p hp => ?_
    subst hp
    exact hu.2 _ (h.lt he hs hl)
  · have : l = 0 := by omega
    subst this
    rw [h.zero]
    exact Sl.nil _ _ _ _ _
theorem Sl.of {α : Type} {M : Mem} {s : Nat} {enc : α → List AVal} {o i l : Nat} {c : Cap} {cs : List AVal} {kd : OKind} {xs : List α} (h : M.get o = some ⟨cs, kd⟩) (hk : kd.Lives) (hp : slPtr (some (o, i)) c = some (o, i)) (hlen : i + l * s ≤ cs.length)
    (hxs : (cs.drop i).take (l * s) = xs.flatMap enc) (hl : xs.length = l) : Sl M s enc (some (o, i)) l c xs := by
  refine ⟨?_, hl⟩
  unfold Mem.raws
  by_cases h0 : l = 0
  · subst h0
    have : xs = [] := List.length_eq_zero_iff.1 hl
    subst this; rfl
  · rw [beq_false h0, cond_false, hp, Option.bind_some, raw_of h hk hlen, hxs]
theorem Sl.whole {α : Type} {M : Mem} {s : Nat} {enc : α → List AVal} {o : Nat} {c : Cap} {kd : OKind} {xs : List α} (he : Enc s enc) (h : M.get o = some ⟨xs.flatMap enc, kd⟩) (hk : kd.Lives) (hp : slPtr (some (o, 0)) c = some (o, 0)) : Sl M s enc (some (o, 0)) xs.length c xs :=
  Sl.of h hk hp (by rw [flatMap_length he]; omega) (by rw [List.drop_zero, List.take_of_length_le (by rw [flatMap_length he]; exact Nat.le_refl _)]) rfl
theorem Sl.part {α : Type} {M : Mem} {s : Nat} {enc : α → List AVal} {o l h : Nat} {c : Cap} {kd : OKind} {xs : List α} (he : Enc s enc) (hg : M.get o = some ⟨xs.flatMap enc, kd⟩) (hk : kd.Lives) (hp : slPtr (some (o, l * s)) c = some (o, l * s)) (h1 : l ≤ h) (h2 : h ≤ xs.length) :
    Sl M s enc (some (o, l * s)) (h - l) c ((xs.drop l).take (h - l)) := by
  refine Sl.of hg hk hp ?_ ?_ (by simp; omega)
  · rw [flatMap_length he, ← Nat.add_mul]
    exact Nat.mul_le_mul_right _ (by omega)
  · rw [flatMap_drop he, flatMap_take he]
structure Row {α : Type} (M : Mem) (s : Nat) (enc : α → List AVal) (a : Option (Nat × Nat)) (l : Nat) (c : Cap) (xs : List α) : Prop where
  sl : Sl M s enc a l c xs
  form : c = .known l ∨ ∃ o, a = some (o, 0) ∧ c = .unk 0 ∧ M.get o = some ⟨xs.flatMap enc, .grow s⟩
def fpOf (a : Option (Nat × Nat)) : List Nat := match a with
  | none => []
  | some p => [p.1]
section
variable {α : Type} {M M' : Mem} {s : Nat} {enc : α → List AVal} {a a' : Option (Nat × Nat)} {l l' : Nat} {c c' : Cap} {xs ys : List α}
theorem Row.nil (M : Mem) (s : Nat) (enc : α → List AVal) : Row M s enc none 0 (.known 0) [] := ⟨Sl.nil _ _ _ _ _, .inl rfl⟩
theorem Row.length (h : Row M s enc a l c xs) : xs.length = l := h.sl.2
theorem Row.same (h : Row M s enc a l c xs) (hg : ∀ o ∈ fpOf a, M'.get o = M.get o) : Row M' s enc a l c xs := by
  refine ⟨h.sl.same fun p hp => hg p.1 (by subst hp; simp [fpOf]), ?_⟩
  rcases h.form with h1 | ⟨o, rfl, h2, h3⟩
  · exact .inl h1
  · exact .inr ⟨o, rfl, h2, by rw [hg o (by simp [fpOf]), h3]⟩
theorem Row.upto (h : Row M s enc a l c xs) (he : Enc s enc) (hs : 0 < s) (hu : M.Upto M') : Row M' s enc a l c xs := by
  refine ⟨h.sl.upto he hs hu, ?_⟩
  rcases h.form with h1 | ⟨o, rfl, h2, h3⟩
  · exact .inl h1
  · exact .inr ⟨o, rfl, h2, hu.get h3⟩
theorem Row.lt (h : Row M s enc a l c xs) (he : Enc s enc) (hs : 0 < s) : 0 < l → ∀ o ∈ fpOf a, o < M.n := by
  intro hl o ho
  cases a with
  | none => simp [fpOf] at ho
  | some p =>
    simp only [fpOf, List.mem_singleton] at ho
    subst ho
    obtain ⟨o, i⟩ := p
    exact h.sl.lt he hs hl
theorem Row.app {bytes : Nat} (h : Row M s enc a l c xs) (he : Enc s enc) (hs : 0 < s) (hy : Sl M s enc a' l' c' ys) (h0 : 0 < l') (hb : (l + l') * bytes ≤ 2 ^ 47) :
    ∃ M', (∀ {β : Type} (K : Option (Nat × Nat) → Nat → Cap → Mem → Option β), appK false s bytes M a l c (.sl a' l' c') K = K (some (M.n, 0)) (l + l') (.unk 0) M') ∧ Row M' s enc (some (M.n, 0)) (l + l') (.unk 0) (xs ++ ys) ∧ M'.n = M.n + 1 ∧
      Mem.But (· ∈ fpOf a) M M' ∧ M'.get M.n = some ⟨(xs ++ ys).flatMap enc, .grow s⟩ := by
  have hlen : (xs ++ ys).length = l + l' := by rw [List.length_append, h.length, hy.2]
  have fin : ∀ M', M'.get M.n = some ⟨(xs ++ ys).flatMap enc, .grow s⟩ → Row M' s enc (some (M.n, 0)) (l + l') (.unk 0) (xs ++ ys) := fun M' hg => by
    refine ⟨?_, .inr ⟨M.n, rfl, rfl, hg⟩⟩
    have := Sl.whole (c := .unk 0) he hg (by simp) rfl
    rwa [hlen] at this
  rcases h.form with rfl | ⟨o, rfl, rfl, hg⟩
  · refine ⟨M.alloc ⟨(xs ++ ys).flatMap enc, .grow s⟩, fun K => ?_, fin _ (get_alloc_self _ _), rfl, (Mem.Upto.alloc _ _).but _, get_alloc_self _ _⟩
    rw [appK_more h.sl.1 hy.1 (by omega) hb, List.flatMap_append]
  · have hlt := Mem.get_lt hg
    refine ⟨(M.put o ⟨[], .dead⟩).alloc ⟨(xs ++ ys).flatMap enc, .grow s⟩, fun K => ?_, fin _ ?_, rfl, ⟨by simp, fun q hq hn => ?_⟩, ?_⟩
    · rw [appK_grow hg hs (by rw [flatMap_length he, h.length]) hy.1 h0 hb, List.flatMap_append]
    · rw [show M.n = (M.put o ⟨[], .dead⟩).n from rfl]; exact get_alloc_self _ _
    · rw [get_alloc_lt (by simpa using hq), get_put_ne (by simp [fpOf] at hn; exact hn)]
    · rw [show M.n = (M.put o ⟨[], .dead⟩).n from rfl]; exact get_alloc_self _ _
theorem Row.push {bytes : Nat} {y : α} {cs : List AVal} (h : Row M s enc a l c xs) (he : Enc s enc) (hs : 0 < s) (hcs : enc y = cs) (hb : (l + 1) * bytes ≤ 2 ^ 47) :
    ∃ M', (∀ {β : Type} (K : Option (Nat × Nat) → Nat → Cap → Mem → Option β), appK false s bytes (M.alloc ⟨cs, .fixed⟩) a l c (.sl (some (M.n, 0)) 1 (.known 1)) K = K (some (M.n + 1, 0)) (l + 1) (.unk 0) M') ∧ Row M' s enc (some (M.n + 1, 0)) (l + 1) (.unk 0) (xs ++ [y]) ∧
      M'.n = M.n + 2 ∧ Mem.But (· ∈ fpOf a) M M' ∧ M'.get (M.n + 1) = some ⟨(xs ++ [y]).flatMap enc, .grow s⟩ := by
  subst hcs
  have h1 := h.upto he hs (Mem.Upto.alloc M ⟨enc y, .fixed⟩)
  have hy : Sl (M.alloc ⟨enc y, .fixed⟩) s enc (some (M.n, 0)) 1 (.known 1) [y] := Sl.of (get_alloc_self _ _) (by simp) rfl (by rw [he]; omega) (by rw [List.drop_zero, Nat.one_mul, List.take_of_length_le (by rw [he]; exact Nat.le_refl _)]; simp) rfl
  obtain ⟨M', q1, q2, q3, q4, q5⟩ := h1.app (bytes := bytes) he hs hy (by omega) hb
  exact ⟨M', q1, q2, by rw [q3]; rfl, (((Mem.Upto.alloc M ⟨enc y, .fixed⟩).but _).trans q4 (fun _ _ h => h)), q5⟩
theorem Row.room {m : Nat} (h : Row M s enc a l c xs) (he : Enc s enc) (hm : m ≤ l) : M.room s a c m = true := by
  rcases h.form with rfl | ⟨o, rfl, rfl, hg⟩
  · exact ble_iff.2 hm
  · exact room_own hg (.inl rfl) (by rw [flatMap_length he, h.length]; exact Nat.mul_le_mul_right _ hm)
theorem Row.tail {i : Nat} {kl : IntKind} (h : Row M s enc a l c xs) (he : Enc s enc) (hi : i ≤ l) :
    ∃ a2 c2, (∀ {β : Type} (K : Option (Nat × Nat) → Nat → Cap → Option β), slcK false s a l c M (some (.int kl (i : Int))) none none K = K a2 (l - i) c2) ∧ Sl M s enc a2 (l - i) c2 (xs.drop i) ∧ (∀ o ∈ fpOf a2, o ∈ fpOf a) := by
  have hlen := h.length
  have hdl : (xs.drop i).length = l - i := by rw [List.length_drop, hlen]
  rcases h.form with rfl | ⟨o, rfl, rfl, hg⟩
  · refine ⟨_, _, fun K => slcK_known_from hi (Nat.le_refl _), ?_, ?_⟩
    · by_cases h0 : l = i
      · subst h0
        have : xs.drop l = [] := List.drop_eq_nil_of_le (by omega)
        rw [this, Nat.sub_self]; exact Sl.nil _ _ _ _ _
      · rw [beq_false h0, cond_false]
        refine ⟨?_, hdl⟩
        have hsl := h.sl.1
        unfold Mem.raws at hsl ⊢
        rw [beq_false (by omega), cond_false] at hsl
        rw [beq_false (by omega), cond_false]
        obtain ⟨p, hp, hr⟩ := Option.bind_eq_some_iff.1 hsl
        obtain ⟨rfl, _⟩ := slPtr_some hp
        obtain ⟨cs, h1, h2, h3⟩ := raw_iff.1 hr
        show M.raw p.1 (p.2 + i * s) ((l - i) * s) = _
        have hm : (l - i) * s = l * s - i * s := Nat.sub_mul _ _ _
        have hm2 := Nat.mul_le_mul_right s hi
        refine raw_iff.2 ⟨cs, h1, by omega, ?_⟩
        rw [← flatMap_drop he, h3, List.drop_take, List.drop_drop, hm]
    · intro o ho
      cases hb : Nat.beq l i <;> rw [hb] at ho
      · cases a with
        | none => simp [adv, fpOf] at ho
        | some p => simpa [adv, fpOf] using ho
      · exact ho
  · have hll : l * s ≤ (xs.flatMap enc).length := by rw [flatMap_length he, hlen]; exact Nat.le_refl _
    cases hz : (Nat.beq i l && Nat.blt 0 i) with
    | true =>
      simp only [Bool.and_eq_true] at hz
      obtain rfl := Nat.eq_of_beq_eq_true hz.1
      refine ⟨some (o, 0), .fin i (i * s), fun K => ?_, ?_, fun q hq => hq⟩
      · rw [slcK_own_from hg (.inl rfl) hll hi, Bool.and_eq_true_iff.2 hz, cond_true, Nat.sub_self]
      · have : xs.drop i = [] := List.drop_eq_nil_of_le (by omega)
        rw [this, Nat.sub_self]; exact Sl.nil _ _ _ _ _
    | false =>
      refine ⟨some (o, i * s), .unk i, fun K => ?_, ?_, fun q hq => hq⟩
      · rw [slcK_own_from hg (.inl rfl) hll hi, hz, cond_false]
      · have := Sl.part (l := i) (h := l) (c := .unk i) he hg (by simp) rfl hi (by omega)
        rwa [List.take_of_length_le (by omega)] at this
theorem flatMap_set (he : Enc s enc) (hs : 0 < s) (xs : List α) (i : Nat) (y : α) (hi : i < xs.length) : (xs.set i y).flatMap enc = overL (xs.flatMap enc) (i * s) (enc y) := by
  have hm := Nat.mul_le_mul_right s (show i + 1 ≤ xs.length from hi)
  rw [Nat.add_mul, Nat.one_mul] at hm
  have hle : i * s + (enc y).length ≤ (xs.flatMap enc).length := by rw [he, flatMap_length he]; exact hm
  apply List.ext_getElem?
  intro j
  rw [overL_get _ _ _ _ hle, he y]
  by_cases hj : j < xs.length * s
  · have hq : j / s < xs.length := Nat.div_lt_of_lt_mul (by rw [Nat.mul_comm]; exact hj)
    have hr : j % s < s := Nat.mod_lt _ hs
    have hdm : j / s * s + j % s = j := by rw [Nat.mul_comm]; exact Nat.div_add_mod j s
    have e1 := flatMap_get he (xs.set i y) (j / s) (j % s) (by simpa using hq) hr
    have e2 := flatMap_get he xs (j / s) (j % s) hq hr
    rw [hdm] at e1 e2
    rw [e1]
    by_cases e : i = j / s
    · subst e
      rw [if_pos (by omega), List.getElem_set_self, show j - j / s * s = j % s from by omega]
    · rw [List.getElem_set_ne e, ← e2, if_neg]
      rintro ⟨h1, h2⟩
      have h3 : j / s = i := by
        refine Nat.div_eq_of_lt_le h1 ?_
        rw [Nat.add_mul, Nat.one_mul]; exact h2
      exact e h3.symm
  · rw [List.getElem?_eq_none (by rw [flatMap_length he, List.length_set]; omega), if_neg (by omega), List.getElem?_eq_none (by rw [flatMap_length he]; omega)]
theorem overL_part (cs : List AVal) (off n k : Nat) (vs : List AVal) (h1 : k + vs.length ≤ n) (h2 : off + n ≤ cs.length) : ((overL cs (off + k) vs).drop off).take n = overL ((cs.drop off).take n) k vs := by
  apply List.ext_getElem?
  intro j
  rw [overL_get _ _ _ _ (by simp; omega), List.getElem?_take, List.getElem?_drop, overL_get _ _ _ _ (by omega)]
  by_cases hj : j < n
  · rw [if_pos hj]
    by_cases hk : k ≤ j ∧ j < k + vs.length
    · rw [if_pos hk, if_pos (by omega), show off + j - (off + k) = j - k from by omega]
    · rw [if_neg hk, if_neg (by omega), List.getElem?_take, if_pos hj, List.getElem?_drop]
  · rw [if_neg hj, if_neg (by omega), List.getElem?_take, if_neg hj]
theorem Row.set {o off i : Nat} {cs : List AVal} {kd : OKind} {y : α} (h : Row M s enc (some (o, off)) l c xs) (he : Enc s enc) (hs : 0 < s) (hi : i < l) (hg : M.get o = some ⟨cs, kd⟩) (hm : kd.mine = true) :
    ∃ M' cs', slPtr (some (o, off)) c = some (o, off) ∧ M.st o (off + i * s) (enc y) = some M' ∧ Row M' s enc (some (o, off)) l c (xs.set i y) ∧ M'.n = M.n ∧ Mem.But (· = o) M M' ∧ M'.get o = some ⟨cs', kd⟩ ∧ cs'.length = cs.length := by
  have hlen := h.length
  have hlt := Mem.get_lt hg
  have hsl := h.sl.1
  unfold Mem.raws at hsl
  rw [beq_false (by omega), cond_false] at hsl
  obtain ⟨p, hp, hr⟩ := Option.bind_eq_some_iff.1 hsl
  have hpp := (slPtr_some hp).1
  obtain rfl := Option.some.inj hpp
  obtain ⟨cs2, h1, h2, h3⟩ := raw_iff.1 hr
  have hcs : cs2 = cs := by
    unfold Mem.cells at h1
    rw [hg] at h1
    cases kd <;> first | exact (Option.some.inj h1).symm | cases hm
  subst hcs
  have hmul := Nat.mul_le_mul_right s (show i + 1 ≤ l from hi)
  rw [Nat.add_mul, Nat.one_mul] at hmul
  have hle : off + i * s + (enc y).length ≤ cs2.length := by rw [he y]; simp only at h2; omega
  refine ⟨_, overL cs2 (off + i * s) (enc y), hp, st_mine hg hm hle, ?_, rfl, Mem.But.put _ _ _, get_put_self hlt, overL_length _ _ _ hle⟩
  have hpart := overL_part cs2 off (l * s) (i * s) (enc y) (by rw [he y]; omega) (by simpa using h2)
  simp only at h3
  rw [← h3, ← flatMap_set he hs xs i y (by omega)] at hpart
  refine ⟨?_, ?_⟩
  · refine ⟨?_, by rw [List.length_set, hlen]⟩
    unfold Mem.raws
    rw [beq_false (by omega), cond_false, hp, Option.bind_some]
    have := raw_of (get_put_self (x := ⟨overL cs2 (off + i * s) (enc y), kd⟩) hlt) (mine_live hm) (i := off) (n := l * s) (by rw [overL_length _ _ _ hle]; simpa using h2)
    rw [this, hpart]
  · rcases h.form with h4 | ⟨q, h5, h6, h7⟩
    · exact .inl h4
    · right
      simp only [Option.some.injEq, Prod.mk.injEq] at h5
      obtain ⟨rfl, rfl⟩ := h5
      rw [hg] at h7
      simp only [Option.some.injEq, AObj.mk.injEq] at h7
      obtain ⟨rfl, rfl⟩ := h7
      exact ⟨o, rfl, h6, by rw [get_put_self hlt, flatMap_set he hs xs i y (by omega), Nat.zero_add]⟩
end
section
variable {β : Type} {M : Mem} {s bytes : Nat} {a' : Option (Nat × Nat)} {l l' : Nat} {c' : Cap} {xs ys : List AVal} {o f k d : Nat}
theorem appK_end {K : Option (Nat × Nat) → Nat → Cap → Mem → Option β} (hg : M.get o = some ⟨xs, .grow s⟩) (hs : 0 < s) (hl : f * s + l * s = xs.length) (hy : M.raws s a' l' c' = some ys) (h0 : 0 < l') (hb : (l + l') * bytes ≤ 2 ^ 47) :
    appK false s bytes M (some (o, f * s)) l (.unk f) (.sl a' l' c') K = K (some (M.n, 0)) (l + l') (.unk 0) ((M.put o ⟨[], .dead⟩).alloc ⟨xs.drop (f * s) ++ ys, .grow s⟩) := by
  have hlive : (⟨xs, .grow s⟩ : AObj).live = some xs := rfl
  have h1 : ¬ (f * s + (l + l') * s ≤ xs.length) := by
    have := Nat.mul_le_mul_right s h0
    rw [Nat.add_mul]
    omega
  have h2 : Nat.beq (f * s + l * s) xs.length = true := by rw [hl]; simp
  have h3 : Nat.ble (f * s + l * s) xs.length = true := ble_iff.2 (by omega)
  unfold appK
  simp only [lenOf, hg, Option.bind_some, hlive, h3, Nat.beq_refl, Bool.and_self, cond_true, beq_false (Nat.ne_of_gt h0), cond_false, ble_false h1, h2, ble_iff.2 hb, firstOf_raws hy]
theorem appK_fin {K : Option (Nat × Nat) → Nat → Cap → Mem → Option β} (hg : M.get o = some ⟨xs, .grow s⟩) (hk : k * s ≤ xs.length) (hd : f + d = k * s) (hy : M.raws s a' l' c' = some ys) (h0 : 0 < l') (hb : l' * bytes ≤ 2 ^ 47) :
    appK false s bytes M (some (o, f)) 0 (.fin k d) (.sl a' l' c') K = K (some (M.n, 0)) l' (.unk 0) ((M.put o ⟨[], .dead⟩).alloc ⟨ys, .grow s⟩) := by
  have hlive : (⟨xs, .grow s⟩ : AObj).live = some xs := rfl
  have h2 : Nat.beq (f + d) (k * s) = true := by rw [hd]; simp
  unfold appK
  simp only [lenOf, Nat.beq_refl, cond_true, beq_false (Nat.ne_of_gt h0), cond_false, hg, Option.bind_some, hlive, ble_iff.2 hk, h2, ble_iff.2 hb, Bool.and_self, firstOf_raws hy]
end
theorem Shows.form {M : Mem} {bytes : Nat} {row : List AT} {v : AVal} (h : Shows M (.sl bytes row) v) : ∃ a l c, v = .sl a l c ∧ l * bytes ≤ reachBytes := by
  rw [Shows] at h
  rcases h with rfl | ⟨o, rfl⟩ | ⟨o, len, cells, rfl, h2, h3, h4, h5⟩
  · exact ⟨_, _, _, rfl, by simp⟩
  · exact ⟨_, _, _, rfl, by simp⟩
  · exact ⟨_, _, _, rfl, h4⟩
theorem Shows.row {M : Mem} {bytes : Nat} {row : List AT} {a : Option (Nat × Nat)} {l : Nat} {c : Cap} (h : Shows M (.sl bytes row) (.sl a l c)) {i : Nat} (hi : i < l) :
    ∃ p vs, slPtr a c = some p ∧ p.1 < M.n ∧ ShowsR M row vs ∧ ∀ M', M.Upto M' → ∀ f, f < row.length → M'.ld p.1 (p.2 + (i * row.length + f)) = vs[f]? := by
  rw [Shows] at h
  rcases h with h | ⟨o, h⟩ | ⟨o, len, cells, h, h2, h3, h4, h5⟩
  · cases h; omega
  · cases h; omega
  · simp only [AVal.sl.injEq] at h
    obtain ⟨rfl, rfl, rfl⟩ := h
    refine ⟨(o, 0), _, rfl, Mem.get_lt h2, h5 i hi, fun M' hu f hf => ?_⟩
    rw [ld_ro (hu.get h2), List.getElem?_take, if_pos hf, List.getElem?_drop, Nat.zero_add]
def ArgRows (M : Mem) (row : List AT) (a : Option (Nat × Nat)) (l : Nat) (c : Cap) : Prop := ∀ i, i < l →
  ∃ p vs, slPtr a c = some p ∧ p.1 < M.n ∧ ShowsR M row vs ∧ ∀ M', M.Upto M' → ∀ f, f < row.length → M'.ld p.1 (p.2 + (i * row.length + f)) = vs[f]?
theorem ArgRows.of {M : Mem} {row : List AT} {o l : Nat} {c : Cap} {cells : List AVal} {kd : OKind} (h : M.get o = some ⟨cells, kd⟩) (hk : kd.Lives) (hp : slPtr (some (o, 0)) c = some (o, 0)) (hall : ∀ i, i < l → ShowsR M row ((cells.drop (i * row.length)).take row.length)) : ArgRows M row (some (o, 0)) l c :=
  fun i hi => ⟨(o, 0), _, hp, Mem.get_lt h, hall i hi, fun M' hu f hf => by rw [ld_of (hu.get h) hk, List.getElem?_take, if_pos hf, List.getElem?_drop, Nat.zero_add]⟩
theorem ArgRows.mono {M M' : Mem} {row : List AT} {a : Option (Nat × Nat)} {l : Nat} {c : Cap} (h : ArgRows M row a l c) (hu : M.Upto M') : ArgRows M' row a l c := fun i hi => by
  obtain ⟨p, vs, h1, h2, h3, h4⟩ := h i hi
  exact ⟨p, vs, h1, Nat.lt_of_lt_of_le h2 hu.1, h3.mono hu, fun M'' hu' => h4 M'' (hu.trans hu')⟩
theorem still1 {M : Mem} {o i : Nat} {v : AVal} (h : M.ld o i = some v) : M.still o i [v] = true := by
  unfold Mem.ld at h
  obtain ⟨cs, h1, h2⟩ := Option.bind_eq_some_iff.1 h
  have hi := (List.getElem?_eq_some_iff.1 h2).1
  have hr : M.raw o i 1 = some [v] := by
    refine raw_iff.2 ⟨cs, h1, hi, ?_⟩
    rw [List.drop_eq_getElem_cons hi]
    have := (List.getElem?_eq_some_iff.1 h2).2
    simp [this]
  unfold Mem.still
  show (match M.raw o i 1 with | some l => sameL l [v] | none => false) = true
  rw [hr]
  exact sameL_refl _
theorem still2 {M : Mem} {o i : Nat} {v w : AVal} (h : M.ld o i = some v) (h' : M.ld o (i + 1) = some w) : M.still o i [v, w] = true := by
  unfold Mem.ld at h h'
  obtain ⟨cs, h1, h2⟩ := Option.bind_eq_some_iff.1 h
  obtain ⟨cs', h1', h2'⟩ := Option.bind_eq_some_iff.1 h'
  rw [h1] at h1'
  obtain rfl := Option.some.inj h1'
  have hi := (List.getElem?_eq_some_iff.1 h2).1
  have hi' := (List.getElem?_eq_some_iff.1 h2').1
  have hr : M.raw o i 2 = some [v, w] := by
    refine raw_iff.2 ⟨cs, h1, hi', ?_⟩
    rw [List.drop_eq_getElem_cons hi, List.drop_eq_getElem_cons hi']
    have e1 := (List.getElem?_eq_some_iff.1 h2).2
    have e2 := (List.getElem?_eq_some_iff.1 h2').2
    simp [e1, e2]
  unfold Mem.still
  show (match M.raw o i 2 with | some l => sameL l [v, w] | none => false) = true
  rw [hr]
  exact sameL_refl _
def Apart (p q : List Nat) : Prop := ∀ o ∈ p, o ∉ q
def FreshOf (M : Mem) (p p' : List Nat) : Prop := ∀ o ∈ p', o ∈ p ∨ M.n ≤ o
theorem Apart.symm {p q : List Nat} (h : Apart p q) : Apart q p := fun o ho hp => h o hp ho
theorem Apart.keep {M : Mem} {p p' q : List Nat} (h : Apart p q) (hf : FreshOf M p p') (hq : ∀ o ∈ q, o < M.n) : Apart p' q := fun o ho hoq => by
  rcases hf o ho with h1 | h1
  · exact h o h1 hoq
  · have := hq o hoq; omega
theorem FreshOf.refl (M : Mem) (p : List Nat) : FreshOf M p p := fun _ h => .inl h
theorem FreshOf.trans {M M' : Mem} {p p' p'' : List Nat} (h : FreshOf M p p') (h' : FreshOf M' p' p'') (hn : M.n ≤ M'.n) : FreshOf M p p'' := fun o ho => by
  rcases h' o ho with h1 | h1
  · exact h o h1
  · exact .inr (by omega)
end Go.Abs
