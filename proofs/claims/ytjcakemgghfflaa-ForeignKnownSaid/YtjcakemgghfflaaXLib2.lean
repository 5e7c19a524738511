import Derived.Test.YtjcakemgghfflaaXLaw
set_option linter.unusedVariables false
set_option linter.unusedSimpArgs false
namespace Go.Abs
theorem get_alloc_self (M : Mem) (x : AObj) : (M.alloc x).get M.n = some x := by rw [Mem.get_alloc, if_pos rfl]
theorem get_put_self {M : Mem} {o : Nat} {x : AObj} (h : o < M.n) : (M.put o x).get o = some x := by rw [Mem.get_put, if_pos ⟨rfl, h⟩]
theorem get_put_ne {M : Mem} {o j : Nat} {x : AObj} (h : j ≠ o) : (M.put o x).get j = M.get j := by rw [Mem.get_put, if_neg (fun e => h e.1)]
def OKind.Lives (k : OKind) : Prop := k ≠ .dead ∧ ∀ t, k ≠ .map t
@[simp] theorem OKind.lives_fixed : OKind.Lives .fixed := ⟨by simp, by simp⟩
@[simp] theorem OKind.lives_grow (s : Nat) : OKind.Lives (.grow s) := ⟨by simp, by simp⟩
@[simp] theorem OKind.lives_ro (s : Nat) : OKind.Lives (.ro s) := ⟨by simp, by simp⟩
theorem OKind.Lives.dead {k : OKind} (h : k.Lives) : k ≠ .dead := h.1
theorem ld_of {M : Mem} {o : Nat} {cs : List AVal} {k : OKind} (h : M.get o = some ⟨cs, k⟩) (hk : k.Lives) (i : Nat) : M.ld o i = cs[i]? := by
  unfold Mem.ld Mem.cells
  rw [h]
  cases k <;> first | exact absurd rfl hk.1 | exact absurd rfl (hk.2 _) | rfl
theorem ld_fix {M : Mem} {o : Nat} {cs : List AVal} (h : M.get o = some ⟨cs, .fixed⟩) (i : Nat) : M.ld o i = cs[i]? := ld_of h (by simp) i
theorem ld_grow {M : Mem} {o s : Nat} {cs : List AVal} (h : M.get o = some ⟨cs, .grow s⟩) (i : Nat) : M.ld o i = cs[i]? := ld_of h (by simp) i
theorem ld_ro {M : Mem} {o s : Nat} {cs : List AVal} (h : M.get o = some ⟨cs, .ro s⟩) (i : Nat) : M.ld o i = cs[i]? := ld_of h (by simp) i
theorem ld_same {M M' : Mem} {o : Nat} (h : M'.get o = M.get o) (i : Nat) : M'.ld o i = M.ld o i := by unfold Mem.ld Mem.cells; rw [h]
theorem raw_same {M M' : Mem} {o : Nat} (h : M'.get o = M.get o) (i n : Nat) : M'.raw o i n = M.raw o i n := by unfold Mem.raw Mem.cells; rw [h]
theorem overL_one : ∀ (cs : List AVal) (i : Nat) (v : AVal), overL cs i [v] = cs.set i v
  | [], i, v => by cases i <;> rfl
  | c :: cs, 0, v => by simp only [overL, List.set_cons_zero]
  | c :: cs, i + 1, v => by simp only [overL, List.set_cons_succ]; rw [overL_one cs i v]
theorem st_of {M : Mem} {o i : Nat} {cs vs : List AVal} {k : OKind} (h : M.get o = some ⟨cs, k⟩) (hm : k = .fixed ∨ ∃ s, k = .grow s) (hle : i + vs.length ≤ cs.length) : M.st o i vs = some (M.put o ⟨overL cs i vs, k⟩) := by
  have hmine : (⟨cs, k⟩ : AObj).mine = some cs := by rcases hm with rfl | ⟨s, rfl⟩ <;> rfl
  unfold Mem.st
  rw [h]
  simp only [Option.bind_some, hmine, ble_iff.2 hle, cond_true]
theorem st_fix {M : Mem} {o i : Nat} {cs vs : List AVal} (h : M.get o = some ⟨cs, .fixed⟩) (hle : i + vs.length ≤ cs.length) : M.st o i vs = some (M.put o ⟨overL cs i vs, .fixed⟩) := st_of h (.inl rfl) hle
theorem st_grow {M : Mem} {o i s : Nat} {cs vs : List AVal} (h : M.get o = some ⟨cs, .grow s⟩) (hle : i + vs.length ≤ cs.length) : M.st o i vs = some (M.put o ⟨overL cs i vs, .grow s⟩) := st_of h (.inr ⟨s, rfl⟩) hle
def OKind.mine : OKind → Bool
  | .fixed => true
  | .grow _ => true
  | _ => false
theorem st_mine {M : Mem} {o i : Nat} {cs vs : List AVal} {k : OKind} (h : M.get o = some ⟨cs, k⟩) (hm : k.mine = true) (hle : i + vs.length ≤ cs.length) : M.st o i vs = some (M.put o ⟨overL cs i vs, k⟩) := by
  refine st_of h ?_ hle
  cases k <;> simp [OKind.mine] at hm ⊢
theorem mine_live {k : OKind} (h : k.mine = true) : k.Lives := by cases k <;> simp [OKind.mine] at h <;> simp
def Mem.raws (M : Mem) (s : Nat) (a : Option (Nat × Nat)) (l : Nat) (c : Cap) : Option (List AVal) := cond (Nat.beq l 0) (some []) ((slPtr a c).bind fun p => M.raw p.1 p.2 (l * s))
theorem raw_iff {M : Mem} {o i n : Nat} {cs : List AVal} : M.raw o i n = some cs ↔ ∃ l, M.cells o = some l ∧ i + n ≤ l.length ∧ cs = (l.drop i).take n := by
  unfold Mem.raw
  rw [Option.bind_eq_some_iff]
  constructor
  · rintro ⟨l, h1, h2⟩
    obtain ⟨h3, h4⟩ := cond_none.1 h2
    exact ⟨l, h1, ble_iff.1 h3, (Option.some.inj h4).symm⟩
  · rintro ⟨l, h1, h2, rfl⟩
    exact ⟨l, h1, cond_none.2 ⟨ble_iff.2 h2, rfl⟩⟩
theorem raw_of {M : Mem} {o i n : Nat} {cs : List AVal} {k : OKind} (h : M.get o = some ⟨cs, k⟩) (hk : k.Lives) (hle : i + n ≤ cs.length) : M.raw o i n = some ((cs.drop i).take n) := by
  refine raw_iff.2 ⟨cs, ?_, hle, rfl⟩
  unfold Mem.cells
  rw [h]
  cases k <;> first | exact absurd rfl hk.1 | exact absurd rfl (hk.2 _) | rfl
theorem raws_length {M : Mem} {s : Nat} {a : Option (Nat × Nat)} {l : Nat} {c : Cap} {cs : List AVal} (h : M.raws s a l c = some cs) : cs.length = l * s := by
  unfold Mem.raws at h
  by_cases h0 : l = 0
  · subst h0; simp at h; simp [← h]
  · rw [beq_false h0, cond_false] at h
    obtain ⟨p, _, h⟩ := Option.bind_eq_some_iff.1 h
    exact (raw_some h).1
theorem raws_zero (M : Mem) (s : Nat) (a : Option (Nat × Nat)) (c : Cap) : M.raws s a 0 c = some [] := rfl
theorem firstOf_raws {β : Type} {M : Mem} {s : Nat} {a : Option (Nat × Nat)} {l n : Nat} {c : Cap} {cs : List AVal} {K : List AVal → Option β} (h : M.raws s a l c = some cs) : firstOf s M (.sl a n c) l K = K cs := by
  unfold firstOf
  unfold Mem.raws at h
  by_cases h0 : l = 0
  · subst h0; simp at h; simp [h]
  · rw [beq_false h0, cond_false] at h
    obtain ⟨p, hp, h⟩ := Option.bind_eq_some_iff.1 h
    simp [hp, h, beq_false h0]
theorem raws_same {M M' : Mem} {s : Nat} {a : Option (Nat × Nat)} {l : Nat} {c : Cap} (h : ∀ p, a = some p → M'.get p.1 = M.get p.1) : M'.raws s a l c = M.raws s a l c := by
  unfold Mem.raws
  cases hp : slPtr a c with
  | none => rfl
  | some p => simp only [Option.bind_some]; rw [raw_same (h p (slPtr_some hp).1)]
theorem raws_get {M : Mem} {s : Nat} {a : Option (Nat × Nat)} {l : Nat} {c : Cap} {cs : List AVal} (h : M.raws s a l c = some cs) {i : Nat} (hi : i < l * s) : ∃ p, slPtr a c = some p ∧ M.ld p.1 (p.2 + i) = cs[i]? := by
  have h0 : l ≠ 0 := by rintro rfl; simp at hi
  unfold Mem.raws at h
  rw [beq_false h0, cond_false] at h
  obtain ⟨p, hp, h⟩ := Option.bind_eq_some_iff.1 h
  obtain ⟨h1, h2⟩ := raw_some h
  refine ⟨p, hp, ?_⟩
  rw [List.getElem?_eq_getElem (by omega)]
  exact h2 i _ (List.getElem?_eq_getElem (by omega))
theorem ints_raws {M : Mem} {k : IntKind} {a : Option (Nat × Nat)} {l : Nat} {c : Cap} {xs : List Int} : M.ints k a l c = some xs ↔ M.raws 1 a l c = some (xs.map (.int k)) := by
  constructor
  · intro h
    by_cases h0 : l = 0
    · subst h0
      have : xs = [] := List.length_eq_zero_iff.1 (ints_iff.1 h).1
      subst this; rfl
    · obtain ⟨p, hp, hr⟩ := ints_raw h (by omega)
      unfold Mem.raws
      rw [beq_false h0, cond_false, hp, Nat.mul_one]
      exact hr
  · intro h
    have hl := raws_length h
    rw [List.length_map, Nat.mul_one] at hl
    refine ints_iff.2 ⟨hl, fun i hi => ?_⟩
    obtain ⟨p, hp, hv⟩ := raws_get h (i := i) (by omega)
    refine ⟨p, hp, ?_⟩
    rw [List.getElem?_map, List.getElem?_eq_getElem (by omega)] at hv
    rw [List.getElem?_eq_getElem (by omega)]
    exact ldI_ld.2 hv
theorem ints_same {M M' : Mem} {k : IntKind} {a : Option (Nat × Nat)} {l : Nat} {c : Cap} (h : ∀ p, a = some p → M'.get p.1 = M.get p.1) : M'.ints k a l c = M.ints k a l c := by
  unfold Mem.ints
  congr 1
  funext i
  cases hp : slPtr a c with
  | none => rfl
  | some p =>
    simp only [Option.bind_some]
    unfold Mem.ldI
    rw [ld_same (h p (slPtr_some hp).1)]
theorem ints_zero (M : Mem) (k : IntKind) (a : Option (Nat × Nat)) (c : Cap) : M.ints k a 0 c = some [] := rfl
theorem ints_length {M : Mem} {k : IntKind} {a : Option (Nat × Nat)} {l : Nat} {c : Cap} {xs : List Int} (h : M.ints k a l c = some xs) : xs.length = l := (ints_iff.1 h).1
theorem ints_lt {M : Mem} {k : IntKind} {o i l : Nat} {c : Cap} {xs : List Int} (h : M.ints k (some (o, i)) l c = some xs) (hl : 0 < l) : o < M.n := by
  obtain ⟨p, hp, hv⟩ := (ints_iff.1 h).2 0 hl
  rw [List.getElem?_eq_getElem (by rw [ints_length h]; exact hl)] at hv
  have := ld_lt (ldI_ld.1 hv)
  have := (slPtr_some hp).1
  simp only [Option.some.injEq] at this
  subst this
  assumption
theorem ints_upto {M M' : Mem} {k : IntKind} {a : Option (Nat × Nat)} {l : Nat} {c : Cap} {xs : List Int} (h : M.ints k a l c = some xs) (hu : M.Upto M') : M'.ints k a l c = some xs := by
  by_cases h0 : l = 0
  · subst h0
    have : xs = [] := List.length_eq_zero_iff.1 (ints_length h)
    subst this; rfl
  · rw [ints_same, h]
    rintro ⟨o, i⟩ rfl
    exact hu.2 o (ints_lt h (by omega))
theorem ints_of {M : Mem} {k : IntKind} {o i l : Nat} {c : Cap} {cs : List AVal} {kd : OKind} {xs : List Int} (h : M.get o = some ⟨cs, kd⟩) (hk : kd.Lives) (hp : slPtr (some (o, i)) c = some (o, i)) (hlen : i + l ≤ cs.length) (hxs : (cs.drop i).take l = xs.map (.int k)) :
    M.ints k (some (o, i)) l c = some xs := by
  rw [ints_raws]
  unfold Mem.raws
  by_cases h0 : l = 0
  · subst h0
    simp at hxs
    simp [hxs]
  · rw [beq_false h0, cond_false, hp, Option.bind_some, Nat.mul_one, raw_of h hk hlen, hxs]
theorem ints_whole {M : Mem} {k : IntKind} {o : Nat} {kd : OKind} {xs : List Int} {c : Cap} (h : M.get o = some ⟨xs.map (.int k), kd⟩) (hk : kd.Lives) (hp : slPtr (some (o, 0)) c = some (o, 0)) : M.ints k (some (o, 0)) xs.length c = some xs :=
  ints_of h hk hp (by simp) (by simp [List.take_of_length_le])
theorem ints_part {M : Mem} {k : IntKind} {o i l : Nat} {kd : OKind} {xs : List Int} {c : Cap} (h : M.get o = some ⟨xs.map (.int k), kd⟩) (hk : kd.Lives) (hp : slPtr (some (o, i)) c = some (o, i)) (hl : i + l ≤ xs.length) :
    M.ints k (some (o, i)) l c = some ((xs.drop i).take l) :=
  ints_of h hk hp (by simpa using hl) (by simp [List.map_take, List.map_drop])
section
variable {β : Type} {M : Mem} {s bytes : Nat} {a a' : Option (Nat × Nat)} {l l' : Nat} {c c' : Cap} {xs ys : List AVal} {K : Option (Nat × Nat) → Nat → Cap → Mem → Option β}
theorem appK_none {n : Nat} (h : l ≤ n) : appK false s bytes M a l (.known n) (.sl a' 0 c') K = K a l (.known n) M := by
  unfold appK
  simp only [lenOf, Nat.add_zero, ble_iff.2 h, cond_true, Nat.beq_refl]
theorem appK_more {n : Nat} (hx : M.raws s a l (.known n) = some xs) (hy : M.raws s a' l' c' = some ys) (hn : n < l + l') (hb : (l + l') * bytes ≤ 2 ^ 47) :
    appK false s bytes M a l (.known n) (.sl a' l' c') K = K (some (M.n, 0)) (l + l') (.unk 0) (M.alloc ⟨xs ++ ys, .grow s⟩) := by
  unfold appK
  simp only [lenOf, ble_false (Nat.not_le.2 hn), cond_false, ble_iff.2 hb, cond_true, firstOf_raws hx, firstOf_raws hy]
theorem appK_grow {o : Nat} (hg : M.get o = some ⟨xs, .grow s⟩) (hs : 0 < s) (hl : xs.length = l * s) (hy : M.raws s a' l' c' = some ys) (h0 : 0 < l') (hb : (l + l') * bytes ≤ 2 ^ 47) :
    appK false s bytes M (some (o, 0)) l (.unk 0) (.sl a' l' c') K = K (some (M.n, 0)) (l + l') (.unk 0) ((M.put o ⟨[], .dead⟩).alloc ⟨xs ++ ys, .grow s⟩) := by
  have hlive : (⟨xs, .grow s⟩ : AObj).live = some xs := rfl
  have h1 : ¬ (0 + (l + l') * s ≤ xs.length) := by
    have := Nat.mul_le_mul_right s h0
    rw [Nat.add_mul]
    omega
  have h2 : Nat.beq (0 + l * s) xs.length = true := by rw [hl, Nat.zero_add]; simp
  have h3 : Nat.ble (0 + l * s) xs.length = true := ble_iff.2 (by omega)
  unfold appK
  simp only [lenOf, hg, Option.bind_some, hlive, h3, Nat.zero_mul, Nat.beq_refl, Bool.and_self, cond_true, beq_false (Nat.ne_of_gt h0), cond_false, ble_false h1, h2, ble_iff.2 hb, firstOf_raws hy, List.drop_zero]
end
section
variable {β : Type} {M : Mem} {s : Nat} {K : Option (Nat × Nat) → Nat → Cap → Option β}
theorem slcK_known {a : Option (Nat × Nat)} {len n l h : Nat} {kl kh : IntKind} (h1 : l ≤ h) (h2 : h ≤ n) :
    slcK false s a len (.known n) M (some (.int kl (l : Int))) (some (.int kh (h : Int))) none K = K (cond (Nat.beq n l) a (adv a (l * s))) (h - l) (.known (n - l)) := by
  unfold slcK
  simp [ble_iff.2 h1, ble_iff.2 h2, ble_iff.2 (Nat.le_refl n)]
theorem slcK_known_to {a : Option (Nat × Nat)} {len n h : Nat} {kh : IntKind} (h2 : h ≤ n) :
    slcK false s a len (.known n) M none (some (.int kh (h : Int))) none K = K (cond (Nat.beq n 0) a (adv a 0)) h (.known n) := by
  unfold slcK
  simp [ble_iff.2 h2, ble_iff.2 (Nat.le_refl n), ble_iff.2 (Nat.zero_le h)]
theorem slcK_known_from {a : Option (Nat × Nat)} {len n l : Nat} {kl : IntKind} (h1 : l ≤ len) (h2 : len ≤ n) :
    slcK false s a len (.known n) M (some (.int kl (l : Int))) none none K = K (cond (Nat.beq n l) a (adv a (l * s))) (len - l) (.known (n - l)) := by
  unfold slcK
  simp [ble_iff.2 h1, ble_iff.2 h2, ble_iff.2 (Nat.le_refl n)]
theorem slcU_of {o l h : Nat} {cs : List AVal} {k : OKind} {f : Nat} (hg : M.get o = some ⟨cs, k⟩) (hk : k = .grow s ∨ k = .ro s) (hle : h * s ≤ cs.length) (hf : f + h * s ≤ cs.length → True) (h1 : f * s + h * s ≤ cs.length) :
    slcU s M o (f * s) f l h K = cond (Nat.beq l h && Nat.blt 0 l) (K (some (o, f * s)) 0 (.fin (f + l) (l * s))) (K (some (o, f * s + l * s)) (h - l) (.unk (f + l))) := by
  unfold slcU
  rcases hk with rfl | rfl <;> simp [hg, AObj.live, ble_iff.2 h1]
theorem slcK_unk {o len l h : Nat} {cs : List AVal} {k : OKind} {f : Nat} {kl kh : IntKind} (hg : M.get o = some ⟨cs, k⟩) (hk : k = .grow s ∨ k = .ro s) (h1 : f * s + h * s ≤ cs.length) (h2 : l ≤ h) :
    slcK false s (some (o, f * s)) len (.unk f) M (some (.int kl (l : Int))) (some (.int kh (h : Int))) none K =
      cond (Nat.beq l h && Nat.blt 0 l) (K (some (o, f * s)) 0 (.fin (f + l) (l * s))) (K (some (o, f * s + l * s)) (h - l) (.unk (f + l))) := by
  unfold slcK
  simp only [asNatO_int, ble_iff.2 h2, cond_true]
  exact slcU_of hg hk (by omega) (fun _ => trivial) h1
theorem slcK_unk_to {o len h : Nat} {cs : List AVal} {k : OKind} {f : Nat} {kh : IntKind} (hg : M.get o = some ⟨cs, k⟩) (hk : k = .grow s ∨ k = .ro s) (h1 : f * s + h * s ≤ cs.length) :
    slcK false s (some (o, f * s)) len (.unk f) M none (some (.int kh (h : Int))) none K = K (some (o, f * s)) h (.unk f) := by
  unfold slcK
  simp only [asNatO_int, asNatO_none, ble_iff.2 (Nat.zero_le h), cond_true]
  rw [slcU_of hg hk (by omega) (fun _ => trivial) h1]
  have : Nat.blt 0 0 = false := rfl
  simp [this]
theorem slcK_unk_from {o len l : Nat} {cs : List AVal} {k : OKind} {f : Nat} {kl : IntKind} (hg : M.get o = some ⟨cs, k⟩) (hk : k = .grow s ∨ k = .ro s) (h1 : f * s + len * s ≤ cs.length) (h2 : l ≤ len) :
    slcK false s (some (o, f * s)) len (.unk f) M (some (.int kl (l : Int))) none none K =
      cond (Nat.beq l len && Nat.blt 0 l) (K (some (o, f * s)) 0 (.fin (f + l) (l * s))) (K (some (o, f * s + l * s)) (len - l) (.unk (f + l))) := by
  unfold slcK
  simp only [asNatO_int, asNatO_none, ble_iff.2 h2, cond_true]
  exact slcU_of hg hk (by omega) (fun _ => trivial) h1
end
section
variable {β : Type} {M : Mem} {s : Nat} {K : Option (Nat × Nat) → Nat → Cap → Option β} {o len l h : Nat} {cs : List AVal} {k : OKind} {kl kh : IntKind}
theorem slcK_own (hg : M.get o = some ⟨cs, k⟩) (hk : k = .grow s ∨ k = .ro s) (h1 : h * s ≤ cs.length) (h2 : l ≤ h) :
    slcK false s (some (o, 0)) len (.unk 0) M (some (.int kl (l : Int))) (some (.int kh (h : Int))) none K = cond (Nat.beq l h && Nat.blt 0 l) (K (some (o, 0)) 0 (.fin l (l * s))) (K (some (o, l * s)) (h - l) (.unk l)) := by
  have := slcK_unk (len := len) (l := l) (h := h) (f := 0) (kl := kl) (kh := kh) (K := K) hg hk (by omega) h2
  simpa using this
theorem slcK_own_to (hg : M.get o = some ⟨cs, k⟩) (hk : k = .grow s ∨ k = .ro s) (h1 : h * s ≤ cs.length) :
    slcK false s (some (o, 0)) len (.unk 0) M none (some (.int kh (h : Int))) none K = K (some (o, 0)) h (.unk 0) := by
  have := slcK_unk_to (len := len) (h := h) (f := 0) (kh := kh) (K := K) hg hk (by omega)
  simpa using this
theorem slcK_own_from (hg : M.get o = some ⟨cs, k⟩) (hk : k = .grow s ∨ k = .ro s) (h1 : len * s ≤ cs.length) (h2 : l ≤ len) :
    slcK false s (some (o, 0)) len (.unk 0) M (some (.int kl (l : Int))) none none K = cond (Nat.beq l len && Nat.blt 0 l) (K (some (o, 0)) 0 (.fin l (l * s))) (K (some (o, l * s)) (len - l) (.unk l)) := by
  have := slcK_unk_from (len := len) (l := l) (f := 0) (kl := kl) (K := K) hg hk (by omega) h2
  simpa using this
theorem room_own (hg : M.get o = some ⟨cs, k⟩) (hk : k = .grow s ∨ k = .ro s) (h1 : h * s ≤ cs.length) : M.room s (some (o, 0)) (.unk 0) h = true := by
  unfold Mem.room
  rcases hk with rfl | rfl <;> simp [hg, AObj.live, ble_iff.2 h1]
end
theorem cut_ints {M : Mem} {k : IntKind} {o l h : Nat} {kd : OKind} {xs : List Int} (hg : M.get o = some ⟨xs.map (.int k), kd⟩) (hk : kd.Lives) (h1 : l ≤ h) (h2 : h ≤ xs.length) : M.ints k (some (o, l)) (h - l) (.unk l) = some ((xs.drop l).take (h - l)) :=
  ints_part hg hk rfl (by omega)
def Mem.But (S : Nat → Prop) (M M' : Mem) : Prop := M.n ≤ M'.n ∧ ∀ o, o < M.n → ¬ S o → M'.get o = M.get o
theorem Mem.But.refl (S : Nat → Prop) (M : Mem) : Mem.But S M M := ⟨Nat.le_refl _, fun _ _ _ => rfl⟩
theorem Mem.But.trans {S S' : Nat → Prop} {M M' M'' : Mem} (h : Mem.But S M M') (h' : Mem.But S' M' M'') (hs : ∀ o, o < M.n → S' o → S o) : Mem.But S M M'' :=
  ⟨Nat.le_trans h.1 h'.1, fun o ho hn => (h'.2 o (Nat.lt_of_lt_of_le ho h.1) (fun x => hn (hs o ho x))).trans (h.2 o ho hn)⟩
theorem Mem.But.mono {S S' : Nat → Prop} {M M' : Mem} (h : Mem.But S M M') (hs : ∀ o, S o → S' o) : Mem.But S' M M' := ⟨h.1, fun o ho hn => h.2 o ho (fun x => hn (hs o x))⟩
theorem Mem.But.upto {S : Nat → Prop} {M M' : Mem} (h : Mem.But S M M') (hs : ∀ o, o < M.n → S o → M'.get o = M.get o) : M.Upto M' := ⟨h.1, fun o ho => by
  by_cases e : S o
  · exact hs o ho e
  · exact h.2 o ho e⟩
theorem Mem.Upto.but {M M' : Mem} (h : M.Upto M') (S : Nat → Prop) : Mem.But S M M' := ⟨h.1, fun o ho _ => h.2 o ho⟩
theorem Mem.But.put (M : Mem) (o : Nat) (x : AObj) : Mem.But (· = o) M (M.put o x) := ⟨Nat.le_refl _, fun j _ hj => get_put_ne hj⟩
theorem Mem.But.get {S : Nat → Prop} {M M' : Mem} (h : Mem.But S M M') {o : Nat} {x : AObj} (hx : M.get o = some x) (hs : ¬ S o) : M'.get o = some x := (h.2 o (Mem.get_lt hx) hs).trans hx
theorem Mem.Upto.get {M M' : Mem} (h : M.Upto M') {o : Nat} {x : AObj} (hx : M.get o = some x) : M'.get o = some x := (h.2 o (Mem.get_lt hx)).trans hx
theorem Mem.Upto.alloc_r {M M' : Mem} (h : M.Upto M') (x : AObj) : M.Upto (M'.alloc x) := h.trans (Mem.Upto.alloc _ _)
theorem get_alloc_of {M : Mem} {o : Nat} {x y : AObj} (h : M.get o = some y) : (M.alloc x).get o = some y := (get_alloc_lt (Mem.get_lt h)).trans h
theorem Shows.ints {M : Mem} {bytes : Nat} {k : IntKind} {v : AVal} (h : Shows M (.sl bytes [.int k]) v) : ∃ a l c xs, v = .sl a l c ∧ M.ints k a l c = some xs ∧ l * bytes ≤ reachBytes ∧ ∀ x ∈ xs, (Lit.int k x).wf = true := by
  rw [Shows] at h
  rcases h with rfl | ⟨o, rfl⟩ | ⟨o, len, cells, rfl, h2, h3, h4, h5⟩
  · exact ⟨_, _, _, [], rfl, rfl, by simp, by simp⟩
  · exact ⟨_, _, _, [], rfl, rfl, by simp, by simp⟩
  · have hall : ∀ i, i < len → ∃ n, cells[i]? = some (.int k n) ∧ (Lit.int k n).wf = true := by
      intro i hi
      have := h5 i hi
      simp only [List.length_singleton, Nat.mul_one, ShowsR, Shows] at this
      obtain ⟨v, vs', hv, ⟨n, rfl, hn⟩, rfl⟩ := this
      refine ⟨n, ?_, hn⟩
      have h6 : ((cells.drop i).take 1)[0]? = some (.int k n) := by rw [hv]; rfl
      simpa [List.getElem?_take, List.getElem?_drop] using h6
    simp only [List.length_singleton, Nat.mul_one] at h3
    let xs := (List.range len).map fun i => match cells[i]? with | some (.int _ n) => n | _ => 0
    have hx : cells = xs.map (.int k) := by
      apply List.ext_getElem?
      intro i
      by_cases hi : i < len
      · obtain ⟨n, hn, _⟩ := hall i hi
        simp [xs, hi, hn]
      · rw [List.getElem?_eq_none (by omega), List.getElem?_eq_none (by simp [xs]; omega)]
    have hlen : xs.length = len := by simp [xs]
    refine ⟨_, _, _, xs, rfl, ?_, h4, ?_⟩
    · rw [hx] at h2
      have := ints_whole (c := .unk 0) h2 (by simp) rfl
      rwa [hlen] at this
    · intro x hx'
      obtain ⟨i, hi, rfl⟩ := List.mem_map.1 hx'
      obtain ⟨n, hn, hw⟩ := hall i (by simpa using hi)
      simp [hn, hw]
end Go.Abs
