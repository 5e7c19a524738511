import Derived.Test.YtjcakemgghfflaaXDrw4
set_option linter.unusedVariables false
set_option linter.unusedSimpArgs false
namespace Go.Abs
open Go.RowKit
mutual
def okS (S : Nat → Prop) : AVal → Prop
  | .ptr a => ∀ p, a = some p → S p.1
  | .sl a _ _ => ∀ p, a = some p → S p.1
  | .map r => ∀ p, r = some p → S p
  | .fn f a b => match f with | none => True | some _ => okSL S a ∧ okSL S b
  | .ifc t v => match t with | none => True | some _ => okS S v
  | .agg l => okSL S l ∧ l.all AVal.flat = true
  | .tup l => okSL S l
  | _ => True
def okSL (S : Nat → Prop) : List AVal → Prop
  | [] => True
  | v :: l => okS S v ∧ okSL S l
end
theorem okSL_iff (S : Nat → Prop) : ∀ l, okSL S l ↔ ∀ v ∈ l, okS S v
  | [] => by simp [okSL]
  | v :: l => by simp [okSL, okSL_iff S l]
mutual
theorem okS_mono {S S' : Nat → Prop} (h : ∀ o, S o → S' o) : ∀ v, okS S v → okS S' v
  | .bool _, _ | .int _ _, _ | .str _, _ => by simp [okS]
  | .ptr a, hv => by simp only [okS] at *; exact fun p hp => h _ (hv p hp)
  | .sl a _ _, hv => by simp only [okS] at *; exact fun p hp => h _ (hv p hp)
  | .map r, hv => by simp only [okS] at *; exact fun p hp => h _ (hv p hp)
  | .fn f a b, hv => by cases f with
    | none => simp [okS]
    | some f => simp only [okS] at *; exact ⟨okSL_mono h a hv.1, okSL_mono h b hv.2⟩
  | .ifc t v, hv => by cases t with
    | none => simp [okS]
    | some t => simp only [okS] at *; exact okS_mono h v hv
  | .agg l, hv => by simp only [okS] at *; exact ⟨okSL_mono h l hv.1, hv.2⟩
  | .tup l, hv => by simp only [okS] at *; exact okSL_mono h l hv
theorem okSL_mono {S S' : Nat → Prop} (h : ∀ o, S o → S' o) : ∀ l, okSL S l → okSL S' l
  | [], _ => by simp [okSL]
  | v :: l, hv => by simp only [okSL] at *; exact ⟨okS_mono h v hv.1, okSL_mono h l hv.2⟩
end
mutual
theorem okS_of {S : Nat → Prop} {n : Nat} (h : ∀ o, o < n → S o) : ∀ v, ok n v → okS S v
  | .bool _, _ | .int _ _, _ | .str _, _ => by simp [okS]
  | .ptr a, hv => by simp only [okS, ok] at *; rintro p rfl; exact h _ hv
  | .sl a _ _, hv => by simp only [okS, ok] at *; rintro p rfl; exact h _ hv
  | .map r, hv => by simp only [okS, ok] at *; rintro p rfl; exact h _ hv
  | .fn f a b, hv => by cases f with
    | none => simp [okS]
    | some f => simp only [okS, ok] at *; exact ⟨okSL_of h a hv.1, okSL_of h b hv.2⟩
  | .ifc t v, hv => by cases t with
    | none => simp [okS]
    | some t => simp only [okS, ok] at *; exact okS_of h v hv
  | .agg l, hv => by simp only [okS, ok] at *; exact ⟨okSL_of h l hv.1, hv.2⟩
  | .tup l, hv => by simp only [okS, ok] at *; exact okSL_of h l hv
theorem okSL_of {S : Nat → Prop} {n : Nat} (h : ∀ o, o < n → S o) : ∀ l, okL n l → okSL S l
  | [], _ => by simp [okSL]
  | v :: l, hv => by simp only [okSL, okL] at *; exact ⟨okS_of h v hv.1, okSL_of h l hv.2⟩
end
mutual
theorem ok_okS {S : Nat → Prop} {n : Nat} (h : ∀ o, S o → o < n) : ∀ v, okS S v → ok n v
  | .bool _, _ | .int _ _, _ | .str _, _ => by simp [ok]
  | .ptr a, hv => by cases a with
    | none => simp [ok, lt1]
    | some p => simp only [okS] at hv; simp only [ok, lt1]; exact h _ (hv p rfl)
  | .sl a _ _, hv => by cases a with
    | none => simp [ok, lt1]
    | some p => simp only [okS] at hv; simp only [ok, lt1]; exact h _ (hv p rfl)
  | .map r, hv => by cases r with
    | none => simp [ok]
    | some p => simp only [okS] at hv; simp only [ok]; exact h _ (hv p rfl)
  | .fn f a b, hv => by cases f with
    | none => simp [ok]
    | some f => simp only [okS, ok] at *; exact ⟨okL_okS h a hv.1, okL_okS h b hv.2⟩
  | .ifc t v, hv => by cases t with
    | none => simp [ok]
    | some t => simp only [okS, ok] at *; exact ok_okS h v hv
  | .agg l, hv => by simp only [okS, ok] at *; exact ⟨okL_okS h l hv.1, hv.2⟩
  | .tup l, hv => by simp only [okS, ok] at *; exact okL_okS h l hv
theorem okL_okS {S : Nat → Prop} {n : Nat} (h : ∀ o, S o → o < n) : ∀ l, okSL S l → okL n l
  | [], _ => by simp [okL]
  | v :: l, hv => by simp only [okSL, okL] at *; exact ⟨ok_okS h v hv.1, okL_okS h l hv.2⟩
end
def Env.on (S : Nat → Prop) (σ σ' : Env) : Prop := ∀ o, S o → σ'.blk o = σ.blk o ∧ σ'.off o = σ.off o ∧ σ'.cap o = σ.cap o
theorem Env.on_slA {S : Nat → Prop} {σ σ' : Env} (h : Env.on S σ σ') {a : Option (Nat × Nat)} (c : Cap) (ha : ∀ p, a = some p → S p.1) : slA σ' a c = slA σ a c ∧ capOf σ' a c = capOf σ a c ∧ a.map (cAddr σ') = a.map (cAddr σ) := by
  cases a with
  | none => cases c <;> simp [capOf]
  | some p =>
    obtain ⟨h1, h2, h3⟩ := h p.1 (ha p rfl)
    cases c <;> simp [slA, capOf, cAddr, h1, h2, h3]
mutual
theorem conc_on {S : Nat → Prop} {σ σ' : Env} (h : Env.on S σ σ') : ∀ v, okS S v → conc σ' v = conc σ v
  | .bool _, _ | .int _ _, _ | .str _, _ => by simp [conc]
  | .ptr a, hv => by simp only [okS] at hv; simp only [conc]; rw [(Env.on_slA h (.known 0) hv).2.2]
  | .sl a len c, hv => by simp only [okS] at hv; simp only [conc]; rw [(Env.on_slA h c hv).1, (Env.on_slA h c hv).2.1]
  | .map r, hv => by cases r with
    | none => simp [conc]
    | some r => simp only [okS] at hv; simp [conc, (h r (hv r rfl)).1]
  | .fn f a b, hv => by cases f with
    | none => simp [conc]
    | some f => simp only [okS] at hv; simp only [conc]; rw [concL_on h a hv.1, concL_on h b hv.2]
  | .ifc t v, hv => by cases t with
    | none => simp [conc]
    | some t => simp only [okS] at hv; simp only [conc]; rw [conc_on h v hv]
  | .agg l, hv => by simp only [okS] at hv; simp only [conc]; rw [concL_on h l hv.1]
  | .tup l, hv => by simp only [okS] at hv; simp only [conc]; rw [concL_on h l hv]
theorem concL_on {S : Nat → Prop} {σ σ' : Env} (h : Env.on S σ σ') : ∀ l, okSL S l → concL σ' l = concL σ l
  | [], _ => by simp [concL]
  | v :: l, hv => by simp only [okSL] at hv; simp only [concL]; rw [conc_on h v hv.1, concL_on h l hv.2]
end
theorem okS_cells {S : Nat → Prop} {v : AVal} (h : okS S v) : okSL S v.cells := by
  cases v with
  | agg l => simp only [okS] at h; exact h.1
  | _ => simpa [AVal.cells, okSL] using h
theorem pf_okS {S : Nat → Prop} {v : AVal} (h : AVal.pf v = true) : okS S v := okS_of (n := 0) (fun o ho => absurd ho (Nat.not_lt_zero o)) v (pf_ok v h)
section
variable {P : Program} {fc : Bool} {call : CallF} {meth : MethF} {fr : Fr} {v : AVal} {S : Nat → Prop}
def OpS (S : Nat → Prop) (fr : Fr) (x : AOpd) : Prop := ∀ v, evV fr x = some v → okS S v
def ezOpd : AOpd → Bool
  | .c v => AVal.pf v
  | _ => true
def isWeak : AOp → Bool
  | .box x => ezOpd x
  | .alloc z => pfL z && z.all AVal.flat
  | .bslice z ps _ => pfL z && z.all AVal.flat && ps.all fun p => ezOpd p.2.2
  | .mkSl z _ _ _ => pfL z && z.all AVal.flat
  | _ => false
def ez : AOp → Bool
  | .mov x => ezOpd x
  | .build z ps => pfL z && z.all AVal.flat && ps.all fun p => ezOpd p.2.2
  | .load1 _ _ => true
  | .loadA _ _ => true
  | .slc _ x _ _ _ => ezOpd x
  | .callP _ _ _ => true
  | .nilCk x => ezOpd x
  | .pick _ a b => ezOpd a && ezOpd b
  | .bin _ _ _ => true
  | .convI _ _ => true
  | .not _ => true
  | .len _ => true
  | .lenStr _ => true
  | .lenA _ => true
  | .fldA _ x => ezOpd x
  | .ixA _ _ x _ => ezOpd x
  | .ixS _ x _ => ezOpd x
  | _ => false
theorem opS {x : AOpd} (hx : ezOpd x = true) (h : ∀ t ∈ opdT x, ∀ v, fr.g t = some v → okS S v) : OpS S fr x := by
  intro v hv
  cases x with
  | t t => exact h t (by simp [opdT]) v hv
  | c u => obtain rfl := Option.some.inj hv; exact pf_okS hx
theorem fill_okS : ∀ {ps : List (Nat × Nat × AOpd)} {cs : List AVal} {β : Type} {K : List AVal → Option β} {r : β}, fillA fr ps cs K = some r → okSL S cs → cs.all AVal.flat = true →
    (∀ p ∈ ps, OpS S fr p.2.2) → ∃ cs', K cs' = some r ∧ okSL S cs' ∧ cs'.all AVal.flat = true
  | [], cs, β, K, r, h, h1, h2, _ => ⟨cs, h, h1, h2⟩
  | (off, m, a) :: ps, cs, β, K, r, h, h1, h2, hp => by
    simp only [fillA, ev_eq, bind_some', cond_none, Bool.and_eq_true] at h
    obtain ⟨va, hva, ⟨⟨hlen, hle⟩, hflat⟩, h⟩ := h
    have hlen := Nat.eq_of_beq_eq_true hlen
    have hle := Nat.le_of_ble_eq_true hle
    have o1 := hp (off, m, a) (by simp) va hva
    have hle' : off + va.cells.length ≤ cs.length := by omega
    exact fill_okS h
      ((okSL_iff _ _).2 fun y hy => (overL_mem hle' hy).elim ((okSL_iff _ _).1 h1 y) ((okSL_iff _ _).1 (okS_cells o1) y))
      (List.all_eq_true.2 fun y hy => (overL_mem hle' hy).elim (List.all_eq_true.1 h2 y) (List.all_eq_true.1 hflat y))
      (fun p hp' => hp p (List.mem_cons_of_mem _ hp'))
inductive MkV : (Nat → AVal) → Prop
  | ptr : MkV fun n => .ptr (some (n, 0))
  | sl (len c : Nat) : MkV fun n => .sl (some (n, 0)) len (.known c)
theorem weak_spec {a : AOp} (h : isWeak a = true) {M M1 : Mem} (he : evalOp fc call meth a fr M K0 = some (v, M1)) :
    ∃ cs mk, MkV mk ∧ v = mk M.n ∧ M1 = M.alloc ⟨cs, .fixed⟩ ∧ (∀ M', evalOp fc call meth a fr M' K0 = some (mk M'.n, M'.alloc ⟨cs, .fixed⟩)) ∧
      ∀ S : Nat → Prop, (∀ t ∈ aTemps a, ∀ u, fr.g t = some u → okS S u) → okSL S cs := by
  cases a <;> simp only [isWeak, Bool.false_eq_true, Bool.and_eq_true] at h
  · rename_i x
    simp only [evalOp, ev_eq, bind_some', K0, cond_none] at he
    obtain ⟨u, hu, hfl, he⟩ := he
    obtain ⟨rfl, rfl⟩ := Prod.mk.inj (Option.some.inj he)
    refine ⟨u.cells, _, .ptr, rfl, rfl, fun M' => ?_, fun S hS => ?_⟩
    · simp only [evalOp, ev_eq, hu, Option.bind_some, hfl, cond_true, K0]
    · exact okS_cells (opS h (by simpa [aTemps] using hS) u hu)
  · rename_i z
    simp only [evalOp, K0] at he
    obtain ⟨rfl, rfl⟩ := Prod.mk.inj (Option.some.inj he)
    exact ⟨z, _, .ptr, rfl, rfl, fun M' => rfl, fun S hS => okSL_of (n := 0) (fun o ho => absurd ho (Nat.not_lt_zero o)) _ (pfL_ok _ h.1)⟩
  · rename_i z ps len
    simp only [evalOp] at he
    have he0 := he
    have hkey : ∀ (ps : List (Nat × Nat × AOpd)) (z : List AVal), fillA fr ps z (fun cs => K0 (.sl (some (M.n, 0)) len (.known len)) (M.alloc ⟨cs, .fixed⟩)) = some (v, M1) → z.all AVal.flat = true →
        ∃ cs, v = .sl (some (M.n, 0)) len (.known len) ∧ M1 = M.alloc ⟨cs, .fixed⟩ ∧ (∀ M' : Mem, fillA fr ps z (fun cs => K0 (.sl (some (M'.n, 0)) len (.known len)) (M'.alloc ⟨cs, .fixed⟩)) = some (.sl (some (M'.n, 0)) len (.known len), M'.alloc ⟨cs, .fixed⟩)) ∧
          ∀ S : Nat → Prop, okSL S z → (∀ p ∈ ps, OpS S fr p.2.2) → okSL S cs := by
      intro ps
      induction ps with
      | nil =>
        intro z h hz
        simp only [fillA, K0] at h
        obtain ⟨rfl, rfl⟩ := Prod.mk.inj (Option.some.inj h)
        exact ⟨z, rfl, rfl, fun M' => rfl, fun S h _ => h⟩
      | cons p ps ih =>
        obtain ⟨off, m, a⟩ := p
        intro z h hz
        simp only [fillA, ev_eq, bind_some', cond_none, Bool.and_eq_true] at h
        obtain ⟨va, hva, ⟨⟨hlen, hle⟩, hflat⟩, h⟩ := h
        have hle' : off + va.cells.length ≤ z.length := by have := Nat.eq_of_beq_eq_true hlen; have := Nat.le_of_ble_eq_true hle; omega
        obtain ⟨cs, q1, q2, q3, q4⟩ := ih _ h (List.all_eq_true.2 fun y hy => (overL_mem hle' hy).elim (List.all_eq_true.1 hz y) (List.all_eq_true.1 hflat y))
        refine ⟨cs, q1, q2, fun M' => ?_, fun S hS hp => q4 S ?_ (fun p hp' => hp p (List.mem_cons_of_mem _ hp'))⟩
        · simp only [fillA, ev_eq, hva, Option.bind_some, hlen, hle, hflat, Bool.and_self, cond_true]
          exact q3 M'
        · exact (okSL_iff _ _).2 fun y hy => (overL_mem hle' hy).elim ((okSL_iff _ _).1 hS y) ((okSL_iff _ _).1 (okS_cells (hp (off, m, a) (by simp) va hva)) y)
    obtain ⟨cs, q1, q2, q3, q4⟩ := hkey ps z he h.1.2
    refine ⟨cs, _, .sl len len, q1, q2, fun M' => by simp only [evalOp]; exact q3 M', fun S hS => q4 S (okSL_of (n := 0) (fun o ho => absurd ho (Nat.not_lt_zero o)) _ (pfL_ok _ h.1.1)) fun p hp => ?_⟩
    refine opS (List.all_eq_true.1 h.2 p hp) fun t ht => hS t ?_
    simp only [aTemps, List.mem_flatMap]
    exact ⟨p, hp, ht⟩
  · rename_i z bytes l c
    simp only [evalOp, ev_eq, bind_some'] at he
    obtain ⟨vl, hl, vc, hc, he⟩ := he
    have hkey : ∃ l' c', ∀ (M : Mem), (asNat fc vl fun l => asNat fc vc fun c => cond (Nat.ble l c && Nat.ble (bytes * c) (2 ^ 47)) (K0 (.sl (some (M.n, 0)) l (.known c)) (M.alloc ⟨replZ z c, .fixed⟩)) none) = some (.sl (some (M.n, 0)) l' (.known c'), M.alloc ⟨replZ z c', .fixed⟩) := by
      unfold asNat at he ⊢
      cases vl <;> try (cases he; done)
      cases vc <;> simp only [cond_none, fN_eq] at he <;> try (cases he.2; done)
      obtain ⟨h1, h2, h3, he⟩ := he
      rename_i _ i _ j
      refine ⟨i.toNat, j.toNat, fun M => ?_⟩
      simp only [fN_eq, h1, h2, h3, cond_true, K0]
    obtain ⟨l', c', hk⟩ := hkey
    rw [hk M] at he
    obtain ⟨rfl, rfl⟩ := Prod.mk.inj (Option.some.inj he)
    refine ⟨_, _, .sl l' c', rfl, rfl, fun M' => ?_, fun S _ => ?_⟩
    · simp only [evalOp, ev_eq, hl, hc, Option.bind_some]; exact hk M'
    · refine (okSL_iff _ _).2 fun y hy => ?_
      have := (okSL_iff S z).1 (okSL_of (n := 0) (fun o ho => absurd ho (Nat.not_lt_zero o)) _ (pfL_ok _ h.1))
      exact this y (replZ_mem hy)
theorem slcK_okS {size : Nat} {a : Option (Nat × Nat)} {len : Nat} {cap : Cap} {M M1 : Mem} {lo hi mx : Option AVal} (h : slcK fc size a len cap M lo hi mx (fun a n c => K0 (.sl a n c) M) = some (v, M1)) (ha : ∀ p, a = some p → S p.1) : okS S v := by
  have key : ∀ (a' : Option (Nat × Nat)) (n : Nat) (c : Cap), K0 (.sl a' n c) M = some (v, M1) → (∀ p, a' = some p → S p.1) → okS S v := by
    intro a' n c h ha'
    obtain ⟨rfl, -⟩ := Prod.mk.inj (Option.some.inj h)
    simp only [okS]; exact ha'
  have hadv : ∀ n p, adv a n = some p → S p.1 := by
    intro n p hp
    cases a with
    | none => cases hp
    | some q => obtain rfl := Option.some.inj hp; exact ha q rfl
  have hc : ∀ (b : Bool) n p, cond b a (adv a n) = some p → S p.1 := by
    intro b n p hp
    cases b
    · exact hadv n p hp
    · exact ha p hp
  have hO : ∀ {x : Option AVal} {d : Nat} {K : Nat → Option (AVal × Mem)} {r}, asNatO fc x d K = some r → ∃ n, K n = some r := by
    intro x d K r h
    unfold asNatO asNat at h
    cases x with
    | none => exact ⟨d, h⟩
    | some y =>
      cases y <;> simp only [cond_none, fN_eq] at h <;> try (cases h; done)
      exact ⟨_, h.2⟩
  unfold slcK at h
  cases cap with
  | known c =>
    simp only at h
    obtain ⟨m, h⟩ := hO h
    obtain ⟨hh, h⟩ := hO (cond_none.1 h).2
    obtain ⟨l, h⟩ := hO (cond_none.1 h).2
    exact key _ _ _ (cond_none.1 h).2 (hc _ _)
  | unk k =>
    cases a with
    | none => cases h
    | some p =>
      have hp : ∀ n q, some (p.1, p.2 + n) = some q → S q.1 := fun n q hq => by obtain rfl := Option.some.inj hq; exact ha p rfl
      cases mx with
      | none =>
        simp only at h
        obtain ⟨hh, h⟩ := hO h
        obtain ⟨l, h⟩ := hO h
        have h := (cond_none.1 h).2
        simp only [slcU, bind_some', cond_none] at h
        obtain ⟨x, hx, cs, hcs, hb, h⟩ := h
        cases hbb : (Nat.beq l hh && Nat.blt 0 l)
        · rw [hbb, cond_false] at h; exact key _ _ _ h (fun q hq => hp _ q hq)
        · rw [hbb, cond_true] at h; exact key _ _ _ h (fun q hq => hp 0 q hq)
      | some mv =>
        simp only at h
        have hN : ∀ {y : AVal} {K : Nat → Option (AVal × Mem)} {r}, asNat fc y K = some r → ∃ n, K n = some r := fun {y K r} h => hO (x := some y) (d := 0) h
        obtain ⟨m, h⟩ := hN h
        obtain ⟨hh, h⟩ := hO h
        obtain ⟨l, h⟩ := hO (cond_none.1 h).2
        have h := (cond_none.1 h).2
        simp only [bind_some', cond_none] at h
        obtain ⟨x, hx, cs, hcs, hb, h⟩ := h
        exact key _ _ _ h (hc _ _)
  | fin k d =>
    cases mx with
    | some _ => cases h
    | none =>
      simp only at h
      obtain ⟨hh, h⟩ := hO h
      obtain ⟨l, h⟩ := hO (cond_none.1 h).2
      exact key _ _ _ (cond_none.1 h).2 ha
  | odd =>
    cases mx with
    | some _ => cases h
    | none =>
      simp only at h
      obtain ⟨hh, h⟩ := hO h
      obtain ⟨l, h⟩ := hO (cond_none.1 h).2
      exact key _ _ _ (cond_none.1 h).2 ha
theorem ez_okS {a : AOp} (h : ez a = true) {M M1 : Mem} (he : evalOp fc call meth a fr M K0 = some (v, M1)) (hS : ∀ t ∈ aTemps a, ∀ u, fr.g t = some u → okS S u)
    (hM : ∀ o x, M.get o = some x → okSL S x.cells) (hflat : ∀ {o i : Nat} {u : AVal}, M.ld o i = some u → u.flat = true) : okS S v := by
  have hld : ∀ {o i : Nat} {u : AVal}, M.ld o i = some u → okS S u := by
    intro o i u hl
    unfold Mem.ld Mem.cells at hl
    cases hx : M.get o with
    | none => simp [hx] at hl
    | some x =>
      simp only [hx, Option.bind_some] at hl
      obtain ⟨l, h1, h2⟩ := bind_some'.1 hl
      have := (AObj.live_eq h1).1
      subst this
      exact (okSL_iff _ _).1 (hM o x hx) u (List.mem_of_getElem? h2)
  cases a <;> simp only [ez, Bool.false_eq_true, Bool.and_eq_true] at h
  · simp only [evalOp, ev_eq, bind_some'] at he
    obtain ⟨u, hu, he⟩ := he
    obtain ⟨rfl, -⟩ := Prod.mk.inj (Option.some.inj he)
    exact opS h (by simpa [aTemps] using hS) u hu
  · simp only [evalOp, ev_eq, bind_some'] at he
    obtain ⟨c, -, t, -, he⟩ := he
    cases t
    · simp only [cond_false, bind_some'] at he
      obtain ⟨u, hu, he⟩ := he
      obtain ⟨rfl, -⟩ := Prod.mk.inj (Option.some.inj he)
      exact opS h.2 (fun t ht => hS t (by simp [aTemps, ht])) u hu
    · simp only [cond_true, bind_some'] at he
      obtain ⟨u, hu, he⟩ := he
      obtain ⟨rfl, -⟩ := Prod.mk.inj (Option.some.inj he)
      exact opS h.1 (fun t ht => hS t (by simp [aTemps, ht])) u hu
  · rename_i z ps
    simp only [evalOp] at he
    obtain ⟨cs, hK, h1, h2⟩ := fill_okS (S := S) he (okSL_of (n := 0) (fun o ho => absurd ho (Nat.not_lt_zero o)) _ (pfL_ok _ h.1.1)) h.1.2 (fun p hp => opS (List.all_eq_true.1 h.2 p hp) fun t ht => hS t (by simp only [aTemps, List.mem_flatMap]; exact ⟨p, hp, ht⟩))
    obtain ⟨rfl, -⟩ := Prod.mk.inj (Option.some.inj hK)
    simp only [okS]; exact ⟨h1, h2⟩
  · simp only [evalOp, ev_eq, bind_some'] at he
    obtain ⟨u, hu, he⟩ := he
    replace he := ptrK_some he
    obtain ⟨o, i, rfl, he⟩ := he
    obtain ⟨w, hw, he⟩ := ldT_some he
    obtain ⟨rfl, -⟩ := Prod.mk.inj (Option.some.inj he)
    exact hld hw
  · simp only [evalOp, ev_eq, bind_some'] at he
    obtain ⟨u, hu, he⟩ := he
    replace he := ptrK_some he
    obtain ⟨o, i, rfl, he⟩ := he
    obtain ⟨ws, hlen, hw, he⟩ := ldTs_some he
    obtain ⟨rfl, -⟩ := Prod.mk.inj (Option.some.inj he)
    simp only [okS]
    refine ⟨(okSL_iff _ _).2 fun y hy => ?_, List.all_eq_true.2 fun y hy => ?_⟩ <;> obtain ⟨j, hj⟩ := List.mem_iff_getElem?.1 hy
    · exact hld (hw j y hj)
    · exact hflat (hw j y hj)
  · rename_i x
    simp only [evalOp, ev_eq, bind_some'] at he
    obtain ⟨u, hu, he⟩ := he
    have o1 := opS h (by simpa [aTemps] using hS) u hu
    cases u <;> simp only [bind_some', K0] at he <;> try (cases he; done)
    · obtain ⟨p, rfl, he⟩ := he
      obtain ⟨rfl, -⟩ := Prod.mk.inj (Option.some.inj he); exact o1
    · obtain ⟨p, rfl, he⟩ := he
      obtain ⟨rfl, -⟩ := Prod.mk.inj (Option.some.inj he); exact o1
    · obtain ⟨p, rfl, he⟩ := he
      obtain ⟨rfl, -⟩ := Prod.mk.inj (Option.some.inj he); exact o1
  · rename_i op x y
    simp only [evalOp, ev_eq, bind_some'] at he
    obtain ⟨a, -, b, -, he⟩ := he
    cases a <;> try (cases he; done)
    cases b <;> try (cases he; done)
    simp only [cond_none] at he
    have he := he.2
    have hI : ∀ {k : IntKind} {n : Int}, K0 (.int k n) M = some (v, M1) → okS S v := fun h => by obtain ⟨rfl, -⟩ := Prod.mk.inj (Option.some.inj h); simp [okS]
    have hB : ∀ {b : Bool}, K0 (.bool b) M = some (v, M1) → okS S v := fun h => by obtain ⟨rfl, -⟩ := Prod.mk.inj (Option.some.inj h); simp [okS]
    have hq : ∀ {t : Bool} {o : Option (AVal × Mem)}, cond t none o = some (v, M1) → o = some (v, M1) := fun {t o} h => by cases t; exact h; cases h
    cases op <;> simp only [binI, fI_eq, fB_eq] at he
    case quo => exact hI (hq he)
    case rem => exact hI (hq he)
    all_goals first | exact hI he | exact hB he | cases he
  · simp only [evalOp, ev_eq, bind_some'] at he
    obtain ⟨u, -, b, -, he⟩ := he
    simp only [fB_eq, K0] at he
    obtain ⟨rfl, -⟩ := Prod.mk.inj (Option.some.inj he); simp [okS]
  · simp only [evalOp, ev_eq, bind_some'] at he
    obtain ⟨u, -, he⟩ := he
    cases u <;> simp only [fI_eq, K0] at he <;> try (cases he; done)
    obtain ⟨rfl, -⟩ := Prod.mk.inj (Option.some.inj he); simp [okS]
  · rename_i size x lo hi mx
    simp only [evalOp, ev_eq, evO_eq, bind_some'] at he
    obtain ⟨u, hu, _, -, _, -, _, -, he⟩ := he
    cases u <;> try (cases he; done)
    rename_i a n c
    have h1 := opS (S := S) h (fun t ht => hS t (by simp [aTemps, ht])) _ hu
    simp only [okS] at h1
    exact slcK_okS he h1
  · simp only [evalOp, ev_eq, bind_some'] at he
    obtain ⟨u, hu, he⟩ := he
    have h1 := opS (S := S) h (fun t ht => hS t (by simp [aTemps, ht])) _ hu
    replace he := ptrK_some he
    obtain ⟨o, i, rfl, he⟩ := he
    obtain ⟨rfl, -⟩ := Prod.mk.inj (Option.some.inj he)
    simp only [okS] at h1 ⊢
    rintro p hp; obtain rfl := Option.some.inj hp; exact h1 (o, i) rfl
  · simp only [evalOp, ev_eq, bind_some'] at he
    obtain ⟨u, hu, w, -, s, hs, he⟩ := he
    have h1 := opS (S := S) h (fun t ht => hS t (by simp [aTemps, ht])) _ hu
    cases u <;> simp only [AVal.sl?] at hs <;> try (cases hs; done)
    obtain rfl := Option.some.inj hs
    unfold asNat at he
    cases w <;> simp only [cond_none, fN_eq, bind_some'] at he <;> try (cases he; done)
    obtain ⟨-, -, p, hp, he⟩ := he
    obtain ⟨rfl, -⟩ := Prod.mk.inj (Option.some.inj he)
    obtain ⟨rfl, -⟩ := slPtr_some hp
    simp only [okS] at h1 ⊢
    rintro q hq; obtain rfl := Option.some.inj hq; exact h1 p rfl
  · simp only [evalOp, ev_eq, bind_some'] at he
    obtain ⟨u, hu, w, -, he⟩ := he
    have h1 := opS (S := S) h (fun t ht => hS t (by simp [aTemps, ht])) _ hu
    replace he := ptrK_some he
    obtain ⟨o, i, rfl, he⟩ := he
    unfold asNat at he
    cases w <;> simp only [cond_none, fN_eq, bind_some'] at he <;> try (cases he; done)
    obtain ⟨-, -, he⟩ := he
    obtain ⟨rfl, -⟩ := Prod.mk.inj (Option.some.inj he)
    simp only [okS] at h1 ⊢
    rintro q hq; obtain rfl := Option.some.inj hq; exact h1 (o, i) rfl
  · simp only [evalOp, evs_eq, bind_some', cond_none] at he
    obtain ⟨vs, -, -, r, -, he⟩ := he
    replace he := castRs_some he
    obtain ⟨hp, he⟩ := cond_none.1 he
    obtain ⟨rfl, -⟩ := Prod.mk.inj (Option.some.inj he)
    exact pf_okS hp
  · simp only [evalOp, ev_eq, bind_some'] at he
    obtain ⟨u, -, s, -, he⟩ := he
    obtain ⟨rfl, -⟩ := Prod.mk.inj (Option.some.inj he); simp [okS]
  · simp only [evalOp, ev_eq, bind_some', fI_eq] at he
    obtain ⟨u, -, s, -, he⟩ := he
    obtain ⟨rfl, -⟩ := Prod.mk.inj (Option.some.inj he); simp [okS]
  · obtain ⟨rfl, -⟩ := Prod.mk.inj (Option.some.inj he); simp [okS]
def isRd : AOp → Bool
  | .load1 _ _ => true
  | .loadA _ _ => true
  | .slc _ _ _ _ _ => true
  | _ => false
theorem ld_more {M X : Mem} (h : ∀ o x, M.get o = some x → X.get o = some x) {o i : Nat} {u : AVal} (hl : M.ld o i = some u) : X.ld o i = some u := by
  unfold Mem.ld Mem.cells at hl ⊢
  cases hx : M.get o with
  | none => simp [hx] at hl
  | some x => rw [h o x hx]; rw [hx] at hl; exact hl
theorem ldT_more {M X : Mem} (h : ∀ o x, M.get o = some x → X.get o = some x) {t : CTy} {o i : Nat} {β : Type} {K : AVal → Option β} {r : β} (hl : M.ldT t o i K = some r) : X.ldT t o i K = some r := by
  cases t <;> simp only [Mem.ldT, Mem.ldI, Mem.ldB, Mem.ldS, Mem.ldP, Mem.ldL, Mem.ldM, Mem.ldF, Mem.ldN, bind_some'] at hl ⊢ <;>
    obtain ⟨x, ⟨v, hv, hx⟩, hk⟩ := hl <;> exact ⟨x, ⟨v, ld_more h hv, hx⟩, hk⟩
theorem ldTs_more {M X : Mem} (h : ∀ o x, M.get o = some x → X.get o = some x) : ∀ {ts : List CTy} {o i : Nat} {β : Type} {K : List AVal → Option β} {r : β}, M.ldTs ts o i K = some r → X.ldTs ts o i K = some r
  | [], _, _, _, _, _, hl => hl
  | t :: ts, o, i, β, K, r, hl => by
    simp only [Mem.ldTs] at hl ⊢
    have h1 : (M.ldT t o i some).bind (fun v => M.ldTs ts o (i + 1) fun vs => K (v :: vs)) = some r := by rw [ldT_bind]; exact hl
    obtain ⟨v, h2, h3⟩ := bind_some'.1 h1
    have h4 := ldTs_more h h3
    have h5 : (X.ldT t o i some).bind (fun v => X.ldTs ts o (i + 1) fun vs => K (v :: vs)) = some r := bind_some'.2 ⟨v, ldT_more h h2, h4⟩
    rw [ldT_bind] at h5; exact h5
theorem slcK_more {M X : Mem} (hg : ∀ o x, M.get o = some x → X.get o = some x) {size : Nat} {a : Option (Nat × Nat)} {len : Nat} {cap : Cap} {lo hi mx : Option AVal} {β : Type} {K : Option (Nat × Nat) → Nat → Cap → Option β} {r : β}
    (h : slcK fc size a len cap M lo hi mx K = some r) : slcK fc size a len cap X lo hi mx K = some r := by
  have hO : ∀ {x : Option AVal} {d : Nat} {K K' : Nat → Option β}, asNatO fc x d K = some r → (∀ n, K n = some r → K' n = some r) → asNatO fc x d K' = some r := by
    intro x d K K' h hk
    unfold asNatO asNat at h ⊢
    cases x with
    | none => exact hk _ h
    | some y =>
      cases y <;> simp only [cond_none, fN_eq] at h ⊢ <;> try (cases h; done)
      exact ⟨h.1, hk _ h.2⟩
  have hN : ∀ {y : AVal} {K K' : Nat → Option β}, asNat fc y K = some r → (∀ n, K n = some r → K' n = some r) → asNat fc y K' = some r := fun {y K K'} h hk => hO (x := some y) (d := 0) h hk
  unfold slcK at h ⊢
  cases cap with
  | known c => exact h
  | unk k =>
    cases a with
    | none => cases h
    | some p =>
      cases mx with
      | none =>
        simp only at h ⊢
        refine hO h fun hh h => hO h fun l h => ?_
        obtain ⟨h1, h⟩ := cond_none.1 h
        refine cond_none.2 ⟨h1, ?_⟩
        unfold slcU at h ⊢
        obtain ⟨x, hx, h⟩ := bind_some'.1 h
        exact bind_some'.2 ⟨x, hg _ _ hx, h⟩
      | some mv =>
        simp only at h ⊢
        refine hN h fun m h => hO h fun hh h => ?_
        obtain ⟨h1, h⟩ := cond_none.1 h
        refine cond_none.2 ⟨h1, hO h fun l h => ?_⟩
        obtain ⟨h1, h⟩ := cond_none.1 h
        refine cond_none.2 ⟨h1, ?_⟩
        obtain ⟨x, hx, h⟩ := bind_some'.1 h
        exact bind_some'.2 ⟨x, hg _ _ hx, h⟩
  | fin k d => exact h
  | odd => exact h
theorem slcK_at {M M1 X : Mem} {size : Nat} {a : Option (Nat × Nat)} {len : Nat} {cap : Cap} {lo hi mx : Option AVal} (Y : Mem) (h : slcK fc size a len cap M lo hi mx (fun a n c => K0 (.sl a n c) X) = some (v, M1)) :
    slcK fc size a len cap M lo hi mx (fun a n c => K0 (.sl a n c) Y) = some (v, Y) := by
  have h2 := congrArg (fun q => q.bind fun p => some (p.1, Y)) h
  simp only [Option.bind_some] at h2
  rw [slcK_bind] at h2
  exact h2
theorem rd_more {a : AOp} (ha : isRd a = true) {M X : Mem} (h : ∀ o x, M.get o = some x → X.get o = some x) (he : evalOp fc call meth a fr M K0 = some (v, M)) : evalOp fc call meth a fr X K0 = some (v, X) := by
  cases a <;> simp only [isRd, Bool.false_eq_true] at ha
  · simp only [evalOp, ev_eq, bind_some'] at he ⊢
    obtain ⟨u, hu, he⟩ := he
    refine ⟨u, hu, ?_⟩
    replace he := ptrK_some he
    obtain ⟨o, i, rfl, he⟩ := he
    simp only [ptrK, AVal.ptr?, Option.bind_some]
    have h2 := congrArg (fun q => q.bind fun p => some (p.1, X)) (ldT_more h he)
    simp only [Option.bind_some] at h2
    rw [ldT_bind] at h2
    exact h2
  · simp only [evalOp, ev_eq, bind_some'] at he ⊢
    obtain ⟨u, hu, he⟩ := he
    refine ⟨u, hu, ?_⟩
    replace he := ptrK_some he
    obtain ⟨o, i, rfl, he⟩ := he
    simp only [ptrK, AVal.ptr?, Option.bind_some]
    have h2 := congrArg (fun q => q.bind fun p => some (p.1, X)) (ldTs_more h he)
    simp only [Option.bind_some] at h2
    rw [ldTs_bind] at h2
    exact h2
  · simp only [evalOp, ev_eq, evO_eq, bind_some'] at he ⊢
    obtain ⟨u, hu, lo, hlo, hi, hhi, mx, hmx, he⟩ := he
    refine ⟨u, hu, lo, hlo, hi, hhi, mx, hmx, ?_⟩
    cases u <;> try (cases he; done)
    exact slcK_at X (slcK_more h he)
theorem asNat_fc0 {β : Type} (v : AVal) (K : Nat → Option β) : asNat true v K = asNat false v K := by cases v <;> simp [asNat]
theorem asNatO_fc0 {β : Type} (v : Option AVal) (d : Nat) (K : Nat → Option β) : asNatO true v d K = asNatO false v d K := by cases v <;> simp [asNatO, asNat_fc0]
theorem slcK_fc0 {β : Type} (fc : Bool) (size : Nat) (a : Option (Nat × Nat)) (len : Nat) (cap : Cap) (M : Mem) (lo hi mx : Option AVal) (K : Option (Nat × Nat) → Nat → Cap → Option β) : slcK fc size a len cap M lo hi mx K = slcK false size a len cap M lo hi mx K := by
  cases fc
  · rfl
  · unfold slcK
    simp only [asNat_fc0, asNatO_fc0]
theorem redo_at {a : AOp} (ha : isRd a = true) {M X : Mem} {v : AVal} (he : evalOp fc call meth a fr M K0 = some (v, M)) (hs : stillAt a fr v X = true) : evalOp fc call meth a fr X K0 = some (v, X) := by
  cases hl : isLoad a with
  | true =>
    obtain ⟨-, p, hp, hstill⟩ := load_same hl he
    unfold stillAt at hs
    rw [hp] at hs
    exact hstill _ hs
  | false =>
    cases a <;> simp only [isRd, isLoad, Bool.false_eq_true, Bool.true_eq_false] at ha hl
    rename_i size x lo' hi' mx'
    simp only [stillAt, addrOf, redo, ev_eq, evO_eq] at hs
    simp only [evalOp, ev_eq, evO_eq, bind_some'] at he ⊢
    obtain ⟨u, hu, lo, hlo, hi, hhi, mx, hmx, he⟩ := he
    refine ⟨u, hu, lo, hlo, hi, hhi, mx, hmx, ?_⟩
    simp only [hu, hlo, hhi, hmx, Option.bind_some] at hs
    cases u <;> try (cases he; done)
    rename_i a n c
    have hfc : ∀ {β : Type} (K : Option (Nat × Nat) → Nat → Cap → Option β), slcK fc size a n c X lo hi mx K = slcK false size a n c X lo hi mx K := fun K => slcK_fc0 fc _ _ _ _ _ _ _ _ K
    have h1 : ∀ {β : Type} (f : AVal → Option β), slcK false size a n c X lo hi mx (fun a n c => f (.sl a n c)) = (slcK false size a n c X lo hi mx fun a n c => some (AVal.sl a n c)).bind f := fun f => by rw [slcK_bind]; rfl
    simp only at he hs ⊢
    rw [hfc, h1 (fun u => K0 u X)]
    rw [h1 (fun u => some (u.same v))] at hs
    cases hg : (slcK false size a n c X lo hi mx fun a n c => some (AVal.sl a n c)) with
    | none => rw [hg] at hs; simp at hs
    | some u =>
      rw [hg] at hs
      simp only [Option.bind_some, Option.getD_some] at hs
      obtain rfl := AVal.same_eq _ _ hs
      rfl
end
end Go.Abs
set_option linter.unusedVariables false
set_option linter.unusedSimpArgs false
namespace Go.Abs
open Go.RowKit
def weakAt (flat : List AOp) (i : Nat) : Bool := (flat[i]?).any isWeak
def isCR : AOp → Bool
  | .callR _ _ _ => true
  | _ => false
def crAt (flat : List AOp) (i : Nat) : Bool := (flat[i]?).any isCR
def ezAt (flat : List AOp) (i : Nat) : Bool := (flat[i]?).any ez
def rdAt (flat : List AOp) (i : Nat) : Bool := (flat[i]?).any isRd
def pairW (ops : Array Oper) (flat : List AOp) (bs : List (List Nat)) (ps : List (Nat × Nat)) (i j : Nat) : Bool :=
  (bs.getD j []).contains i || (apartB (dstOf ops i) (dstOf ops j) (rdOf ops flat i) (rdOf ops flat j) && (!(effAt flat i && effAt flat j) || (weakAt flat i && weakAt flat j)) &&
    (!effAt flat i || effAt flat j || memAt flat j || (rdAt flat j && ps.contains (j, i))) && (!effAt flat j || effAt flat i || memAt flat i || (rdAt flat i && ps.contains (i, j)) || (crAt flat i && weakAt flat j)))
def drwOkW (ops : Array Oper) (flat : List AOp) (ps : List (Nat × Nat)) : Bool :=
  let bs := befs ops.toList []
  Nat.beq flat.length ops.size && (List.range ops.size).all fun j => (match ops[j]? with
    | some o => (direct o).all (fun k => Nat.blt k j) && (match o.guard with
      | some (g, _) => (direct o).contains g && (List.range ops.size).all fun k => Nat.beq k g || decide (dstOf ops k ≠ dstOf ops g)
      | none => true)
    | none => false) && (effAt flat j || ezAt flat j || crAt flat j) && (List.range j).all fun i => pairW ops flat bs ps i j
structure DOkW (ops : Array Oper) (flat : List AOp) (ps : List (Nat × Nat)) : Prop where
  flen : flat.length = ops.size
  edge : ∀ (j : Nat) (o : Oper), ops[j]? = some o → ∀ k ∈ direct o, k < j
  guard : ∀ (j : Nat) (o : Oper) (g : Nat) (w : Bool), ops[j]? = some o → o.guard = some (g, w) → g ∈ direct o ∧ ∀ k, k < ops.size → k = g ∨ dstOf ops k ≠ dstOf ops g
  easy : ∀ j, j < ops.size → effAt flat j = true ∨ ezAt flat j = true ∨ crAt flat j = true
  pair : ∀ (i j : Nat), i < j → j < ops.size → pairW ops flat (befs ops.toList []) ps i j = true
theorem DOkW.of {ops : Array Oper} {flat : List AOp} {ps : List (Nat × Nat)} (h : drwOkW ops flat ps = true) : DOkW ops flat ps := by
  unfold drwOkW at h
  simp only [Bool.and_eq_true, List.all_eq_true, List.mem_range] at h
  obtain ⟨h1, h2⟩ := h
  refine ⟨beq_t h1, fun j o ho k hk => ?_, fun j o g w ho hg => ?_, fun j hj => ?_, fun i j hij hj => (h2 j hj).2 i hij⟩
  · have hj : j < ops.size := (Array.getElem?_eq_some_iff.1 ho).1
    have := (h2 j hj).1.1
    rw [ho] at this
    simp only [Bool.and_eq_true, List.all_eq_true] at this
    exact Mem.blt_iff.1 (this.1 k hk)
  · have hj : j < ops.size := (Array.getElem?_eq_some_iff.1 ho).1
    have := (h2 j hj).1.1
    rw [ho] at this
    simp only [Bool.and_eq_true, hg, List.all_eq_true, List.mem_range, List.contains_iff_mem, Bool.or_eq_true, decide_eq_true_eq] at this
    refine ⟨this.2.1, fun k hk => ?_⟩
    rcases this.2.2 k hk with e | e
    · exact .inl (beq_t e)
    · exact .inr e
  · have := (h2 j hj).1.2
    simpa [or_assoc] using this
section
variable {P : Program} {ops : Array Oper} {fc : Bool} {call : CallF} {meth : MethF} {flat : List AOp} {T : List TRec} {fr0 frn : Fr} {M0 Mn : Mem} {ps : List (Nat × Nat)}
variable {B : Nat → Prop} {w0 w : World} {σ0 σ σ' : Env} {df : List Deferred} {listed : Array Bool} {act : Act} {m C : Nat} {X : Mem}
theorem Rep.of_get {M M' : Mem} (hr : Rep σ B w0 M w) (hg : ∀ o, M'.get o = M.get o) (hok : ∀ o x, M.get o = some x → okL M'.n x.cells) : Rep σ B w0 M' w :=
  ⟨fun o x h => by rw [hg] at h; exact ⟨hok o x h, (hr.oks o x h).2⟩, fun o x h => by rw [hg] at h; exact hr.obj o x h, fun o o' x x' l l' h h' => by rw [hg] at h h'; exact hr.inj o o' x x' l l' h h', hr.below, hr.size,
    fun o o' x x' t t' h h' => by rw [hg] at h h'; exact hr.injM o o' x x' t t' h h'⟩
theorem mem_of (f : Mem) (C : Nat) (h : f.n ≤ C) : ∃ X : Mem, X.n = C ∧ ∀ o, X.get o = f.get o := by
  have key : ∀ d, d ≤ f.n → ∃ X : Mem, X.n = C ∧ ∀ o, X.get o = if o < d then f.get o else none := by
    intro d
    induction d with
    | zero => exact fun _ => ⟨⟨C, .e⟩, rfl, fun o => by rw [Mem.get_eq]; simp [Tr.get]⟩
    | succ d ih =>
      intro hd
      obtain ⟨X, h1, h2⟩ := ih (by omega)
      cases hx : f.get d with
      | none =>
        refine ⟨X, h1, fun o => ?_⟩
        rw [h2]
        by_cases e : o = d
        · subst e; simp [hx]
        · by_cases h3 : o < d
          · rw [if_pos h3, if_pos (by omega)]
          · rw [if_neg h3, if_neg (by omega)]
      | some x =>
        refine ⟨X.put d x, h1, fun o => ?_⟩
        rw [Mem.get_put, h2]
        by_cases e : o = d
        · subst e; rw [if_pos ⟨rfl, by omega⟩, if_pos (by omega), hx]
        · rw [if_neg (fun h => e h.1)]
          by_cases h3 : o < d
          · rw [if_pos h3, if_pos (by omega)]
          · rw [if_neg h3, if_neg (by omega)]
  obtain ⟨X, h1, h2⟩ := key f.n (Nat.le_refl _)
  refine ⟨X, h1, fun o => ?_⟩
  rw [h2]
  by_cases e : o < f.n
  · rw [if_pos e]
  · rw [if_neg e, Mem.get_eq, if_neg e]
theorem RepObj.on {S : Nat → Prop} {o : Nat} {x : AObj} (h : RepObj σ B w o x) (ho : S o) (hs : Env.on S σ σ') (hx : okSL S x.cells) : RepObj σ' B w o x := by
  obtain ⟨h1, h2, h3⟩ := hs o ho
  have hc : ∀ (i : Nat) (v : AVal), x.cells[i]? = some v → conc σ' v = conc σ v := fun i v hv => conc_on hs v ((okSL_iff _ _).1 hx v (List.mem_of_getElem? hv))
  have hl := concL_on hs x.cells hx
  unfold RepObj at *
  cases hk : x.kind <;> simp only [hk] at h ⊢
  · rw [h1, h2, h3, hl]; exact h
  · rw [h1, h2, h3]
    obtain ⟨a1, arr, e, fr, a2, a3, a4, a5, a6⟩ := h
    exact ⟨a1, arr, e, fr, a2, a3, a4, a5, fun i v hv => by rw [hc i v hv]; exact a6 i v hv⟩
  · rw [h1, h2, h3]
    obtain ⟨a1, a2, a3⟩ := h
    exact ⟨a1, fun i v hv => by rw [hc i v hv]; exact a2 i v hv, a3⟩
  · rw [h1, hl]; exact h
def Sx (flat : List AOp) (T : List TRec) (Mn : Mem) (listed : Array Bool) (m : Nat) (o : Nat) : Prop := o < (mmT T Mn m).n ∨ ∃ k, m ≤ k ∧ EffAt flat T k ∧ listed.getD k false = true ∧ o = (mmT T Mn k).n
structure InvW (P : Program) (ops : Array Oper) (flat : List AOp) (T : List TRec) (fr0 frn : Fr) (M0 Mn : Mem) (B : Nat → Prop) (w0 : World) (σ0 : Env) (df : List Deferred) (C : Nat) (listed : Array Bool) (act : Act) (w : World) (σ : Env) (m : Nat) (X : Mem) : Prop where
  size : listed.size = ops.size
  closed : ∀ j o, ops[j]? = some o → listed.getD j false = true → ∀ k ∈ direct o, listed.getD k false = true
  mle : m ≤ ops.size
  lo : ∀ k, EffAt flat T k → k < m → listed.getD k false = true
  wk : ∀ k, EffAt flat T k → m ≤ k → listed.getD k false = true → weakAt flat k = true
  xn : X.n = C
  x1 : ∀ o, o < (mmT T Mn m).n → X.get o = (mmT T Mn m).get o
  x2 : ∀ k, EffAt flat T k → m ≤ k → listed.getD k false = true → X.get (mmT T Mn k).n = (mmT T Mn (k + 1)).get (mmT T Mn k).n
  x3 : ∀ o x, X.get o = some x → Sx flat T Mn listed m o
  xs : ∀ o x, X.get o = some x → okSL (Sx flat T Mn listed m) x.cells
  rep : Rep σ B w0 X w
  ext : Env.ext M0.n σ0 σ
  nle : M0.n ≤ (mmT T Mn m).n
  dfs : act.defers = df
  len : fr0.length = act.tmps.size
  wr : ∀ t i, listed.getD i false = true → dstOf ops i = some t → (∀ j, listed.getD j false = true → dstOf ops j = some t → j ≤ i) →
    (∀ v, (fmT T frn (i + 1)).g t = some v → okS (Sx flat T Mn listed m) v ∧ act.tmps.getD t undef = conc σ v) ∧ ((∃ R, T[i]? = some R ∧ R.st = none) → boolOf act.tmps[t]? = none)
  nw : ∀ t, (∀ j, listed.getD j false = true → dstOf ops j ≠ some t) → ∀ v, fr0.g t = some v → okS (Sx flat T Mn listed m) v ∧ act.tmps.getD t undef = conc σ v
theorem TF.ks (h : TF P ops fc call meth flat T fr0 frn M0 Mn) {k : Nat} (hk : EffAt flat T k) : k < ops.size := by
  obtain ⟨_, R, v, hR, _⟩ := hk
  have := (List.getElem?_eq_some_iff.1 hR).1
  rw [h.len] at this; exact this
theorem TF.weak (h : TF P ops fc call meth flat T fr0 frn M0 Mn) {k : Nat} (hk : EffAt flat T k) (hw : weakAt flat k = true) : ∃ x, mmT T Mn (k + 1) = (mmT T Mn k).alloc x := by
  obtain ⟨o, a, st, h1, h2, h3, h4, h5⟩ := h.step k (h.ks hk)
  have hwa : isWeak a = true := by simpa [weakAt, h2] using hw
  rcases h5 with ⟨v, rfl, he, _⟩ | ⟨rfl, _⟩
  · obtain ⟨cs, mk, -, -, q, -⟩ := weak_spec hwa he
    exact ⟨_, q⟩
  · obtain ⟨_, R, v, hR, hv⟩ := hk
    rw [h4] at hR
    obtain rfl := Option.some.inj hR
    cases hv
theorem TF.n_le (h : TF P ops fc call meth flat T fr0 frn M0 Mn) : ∀ (d a : Nat), a + d ≤ ops.size → (∀ k, a ≤ k → k < a + d → EffAt flat T k → weakAt flat k = true) → (mmT T Mn a).n ≤ (mmT T Mn (a + d)).n ∧ ((∃ k, a ≤ k ∧ k < a + d ∧ EffAt flat T k) → (mmT T Mn a).n < (mmT T Mn (a + d)).n)
  | 0, a, _, _ => ⟨Nat.le_refl _, fun ⟨k, h1, h2, _⟩ => by omega⟩
  | d + 1, a, hle, hw => by
    obtain ⟨q1, q2⟩ := h.n_le d a (by omega) (fun k h1 h2 => hw k h1 (by omega))
    by_cases e : EffAt flat T (a + d)
    · obtain ⟨x, hx⟩ := h.weak e (hw _ (by omega) (by omega) e)
      rw [show a + (d + 1) = (a + d) + 1 from by omega, hx, Mem.n_alloc]
      exact ⟨by omega, fun _ => by omega⟩
    · rw [show a + (d + 1) = (a + d) + 1 from by omega, h.mm_step (by omega) e]
      refine ⟨q1, fun ⟨k, h1, h2, h3⟩ => q2 ⟨k, h1, ?_, h3⟩⟩
      have : k ≠ a + d := fun e' => e (by rw [← e']; exact h3)
      omega
theorem TF.n_le' (h : TF P ops fc call meth flat T fr0 frn M0 Mn) {a b : Nat} (hab : a ≤ b) (hb : b ≤ ops.size) (hw : ∀ k, a ≤ k → k < b → EffAt flat T k → weakAt flat k = true) : (mmT T Mn a).n ≤ (mmT T Mn b).n ∧ ((∃ k, a ≤ k ∧ k < b ∧ EffAt flat T k) → (mmT T Mn a).n < (mmT T Mn b).n) := by
  have := h.n_le (b - a) a (by omega) (fun k h1 h2 => hw k h1 (by omega))
  rwa [show a + (b - a) = b from by omega] at this
theorem befW (hd : DOkW ops flat ps) (hcl : ∀ j o, ops[j]? = some o → listed.getD j false = true → ∀ k ∈ direct o, listed.getD k false = true) : ∀ (j : Nat) (o : Oper), ops[j]? = some o → (∀ k ∈ direct o, listed.getD k false = true) →
    ∀ i, i ∈ (befs ops.toList []).getD j [] → listed.getD i false = true := by
  intro j
  induction j using Nat.strongRecOn with
  | _ j ih =>
    intro o ho hall i hi
    have := (befs_spec ops.toList []).2.2 j o (by simpa using ho) i (by simpa using hi)
    rcases this with h | ⟨k, k1, k2, k3⟩
    · exact hall i h
    · have hkl := hall k k1
      have hkj : k < j := hd.edge j o ho k k1
      have hko : k < ops.size := by have := (Array.getElem?_eq_some_iff.1 ho).1; omega
      have hok : ops[k]? = some ops[k] := by simp [hko]
      exact ih k hkj _ hok (hcl k _ hok hkl) i k3
theorem standsW (hd : DOkW ops flat ps) (hi : InvW P ops flat T fr0 frn M0 Mn B w0 σ0 df C listed act w σ m X) {i : Nat} {o : Oper} (ho : ops[i]? = some o) (hun : listed.getD i false = false) (hall : ∀ k ∈ direct o, listed.getD k false = true)
    {k : Nat} (hk : k < ops.size) (hne : k ≠ i) :
    (k < i ∧ listed.getD k false = true) ∨ (i < k ∧ listed.getD k false = false) ∨
    ((apartB (dstOf ops k) (dstOf ops i) (rdOf ops flat k) (rdOf ops flat i) = true ∨ apartB (dstOf ops i) (dstOf ops k) (rdOf ops flat i) (rdOf ops flat k) = true) ∧ (effAt flat k = true → effAt flat i = true → weakAt flat k = true ∧ weakAt flat i = true) ∧
      (effAt flat k = true → effAt flat i = false → memAt flat i = true ∨ (rdAt flat i = true ∧ (i, k) ∈ ps) ∨ (crAt flat i = true ∧ weakAt flat k = true ∧ i < k))) := by
  have hio : i < ops.size := (Array.getElem?_eq_some_iff.1 ho).1
  rcases Nat.lt_or_gt_of_ne hne with hlt | hgt
  · have hp := hd.pair k i hlt hio
    unfold pairW at hp
    simp only [Bool.or_eq_true, Bool.and_eq_true, List.contains_iff_mem] at hp
    rcases hp with hp | ⟨⟨⟨h1, h2⟩, h3⟩, h4⟩
    · exact .inl ⟨hlt, befW hd hi.closed i o ho hall k hp⟩
    · refine .inr (.inr ⟨.inl h1, fun he he' => ?_, fun he he' => ?_⟩)
      · simp [he, he'] at h2; exact h2
      · simp [he, he'] at h3
        rcases h3 with h3 | h3
        · exact .inl h3
        · exact .inr (.inl h3)
  · have hp := hd.pair i k hgt hk
    unfold pairW at hp
    simp only [Bool.or_eq_true, Bool.and_eq_true, List.contains_iff_mem] at hp
    rcases hp with hp | ⟨⟨⟨h1, h2⟩, h3⟩, h4⟩
    · refine .inr (.inl ⟨hgt, ?_⟩)
      cases hl : listed.getD k false with
      | false => rfl
      | true =>
        have hok : ops[k]? = some ops[k] := by simp [hk]
        have := befW hd hi.closed k _ hok (hi.closed k _ hok hl) i hp
        rw [hun] at this
        cases this
    · refine .inr (.inr ⟨.inr h1, fun he he' => ?_, fun he he' => ?_⟩)
      · simp [he, he'] at h2; exact h2.symm
      · simp [he, he'] at h4
        rcases h4 with (h4 | h4) | h4
        · exact .inl h4
        · exact .inr (.inl h4)
        · exact .inr (.inr ⟨h4.1, h4.2, hgt⟩)
theorem left_weak (hd : DOkW ops flat ps) (hcl : ∀ j o, ops[j]? = some o → listed.getD j false = true → ∀ k ∈ direct o, listed.getD k false = true) {i : Nat} {o : Oper} (ho : ops[i]? = some o) (hall : ∀ k ∈ direct o, listed.getD k false = true) (hei : effAt flat i = true)
    {k : Nat} (hk : k < i) (hek : effAt flat k = true) (hun : listed.getD k false = false) : weakAt flat k = true := by
  have hio : i < ops.size := (Array.getElem?_eq_some_iff.1 ho).1
  have hp := hd.pair k i hk hio
  unfold pairW at hp
  simp only [Bool.or_eq_true, Bool.and_eq_true, List.contains_iff_mem] at hp
  rcases hp with hp | ⟨⟨⟨h1, h2⟩, h3⟩, h4⟩
  · have := befW hd hcl i o ho hall k hp
    rw [hun] at this; cases this
  · simp [hek, hei] at h2; exact h2.1
theorem Sx_succ (h : TF P ops fc call meth flat T fr0 frn M0 Mn) (hm : m < ops.size) (hl : EffAt flat T m → listed.getD m false = true ∧ weakAt flat m = true) (o : Nat) : Sx flat T Mn listed (m + 1) o ↔ Sx flat T Mn listed m o := by
  unfold Sx
  by_cases e : EffAt flat T m
  · obtain ⟨x, hx⟩ := h.weak e (hl e).2
    rw [hx, Mem.n_alloc]
    constructor
    · rintro (h1 | ⟨k, k1, k2, k3, k4⟩)
      · by_cases e2 : o = (mmT T Mn m).n
        · exact .inr ⟨m, Nat.le_refl _, e, (hl e).1, e2⟩
        · exact .inl (by omega)
      · exact .inr ⟨k, by omega, k2, k3, k4⟩
    · rintro (h1 | ⟨k, k1, k2, k3, k4⟩)
      · exact .inl (by omega)
      · by_cases e2 : k = m
        · subst e2; exact .inl (by omega)
        · exact .inr ⟨k, by omega, k2, k3, k4⟩
  · rw [h.mm_step hm e]
    constructor
    · rintro (h1 | ⟨k, k1, k2, k3, k4⟩)
      · exact .inl h1
      · exact .inr ⟨k, by omega, k2, k3, k4⟩
    · rintro (h1 | ⟨k, k1, k2, k3, k4⟩)
      · exact .inl h1
      · have : k ≠ m := fun e' => e (by rw [← e']; exact k2)
        exact .inr ⟨k, by omega, k2, k3, k4⟩
theorem InvW.succ (h : TF P ops fc call meth flat T fr0 frn M0 Mn) (hi : InvW P ops flat T fr0 frn M0 Mn B w0 σ0 df C listed act w σ m X) (hm : m < ops.size) (hl : EffAt flat T m → listed.getD m false = true) :
    InvW P ops flat T fr0 frn M0 Mn B w0 σ0 df C listed act w σ (m + 1) X := by
  have hlw : EffAt flat T m → listed.getD m false = true ∧ weakAt flat m = true := fun e => ⟨hl e, hi.wk m e (Nat.le_refl _) (hl e)⟩
  have hS : ∀ o, Sx flat T Mn listed (m + 1) o ↔ Sx flat T Mn listed m o := Sx_succ h hm hlw
  have hSf : Sx flat T Mn listed (m + 1) = Sx flat T Mn listed m := funext fun o => propext (hS o)
  refine ⟨hi.size, hi.closed, hm, fun k k1 k2 => ?_, fun k k1 k2 => hi.wk k k1 (by omega), hi.xn, fun o ho => ?_, fun k k1 k2 => hi.x2 k k1 (by omega), by rw [hSf]; exact hi.x3, by rw [hSf]; exact hi.xs, hi.rep, hi.ext, ?_, hi.dfs, hi.len, by rw [hSf]; exact hi.wr, by rw [hSf]; exact hi.nw⟩
  · by_cases e : k = m
    · subst e; exact hl k1
    · exact hi.lo k k1 (by omega)
  · by_cases e : EffAt flat T m
    · obtain ⟨x, hx⟩ := h.weak e (hlw e).2
      by_cases e2 : o = (mmT T Mn m).n
      · subst e2; exact hi.x2 m e (Nat.le_refl _) (hl e)
      · rw [hx, Mem.n_alloc] at ho
        rw [hi.x1 o (by omega), hx, Mem.get_alloc]
        simp [e2]
    · rw [h.mm_step hm e] at ho ⊢
      exact hi.x1 o ho
  · by_cases e : EffAt flat T m
    · obtain ⟨x, hx⟩ := h.weak e (hlw e).2
      rw [hx, Mem.n_alloc]; exact Nat.le_succ_of_le hi.nle
    · rw [h.mm_step hm e]; exact hi.nle
theorem InvW.far (h : TF P ops fc call meth flat T fr0 frn M0 Mn) : ∀ (d : Nat) {m : Nat}, ops.size - m = d → InvW P ops flat T fr0 frn M0 Mn B w0 σ0 df C listed act w σ m X →
    ∃ m', InvW P ops flat T fr0 frn M0 Mn B w0 σ0 df C listed act w σ m' X ∧ (m' = ops.size ∨ (EffAt flat T m' ∧ listed.getD m' false = false))
  | 0, m, hd, hi => ⟨m, hi, .inl (by have := hi.mle; omega)⟩
  | d + 1, m, hd, hi => by
    by_cases e : EffAt flat T m → listed.getD m false = true
    · exact InvW.far h d (by omega) (hi.succ h (by omega) e)
    · refine ⟨m, hi, .inr ?_⟩
      cases hl : listed.getD m false with
      | true => exact absurd (fun _ => hl) e
      | false =>
        refine ⟨Classical.not_not.1 fun h' => e fun h'' => absurd h'' h', rfl⟩
end
end Go.Abs
set_option linter.unusedVariables false
set_option linter.unusedSimpArgs false
namespace Go.Abs
open Go.RowKit
section
variable {P : Program} {ops : Array Oper} {fc : Bool} {call : CallF} {meth : MethF} {flat : List AOp} {T : List TRec} {fr0 frn : Fr} {M0 Mn : Mem} {ps : List (Nat × Nat)}
variable {B : Nat → Prop} {w0 w : World} {σ0 σ σ' : Env} {df : List Deferred} {listed : Array Bool} {act : Act} {m C : Nat} {X : Mem} {Q : Exit → Act → World → Prop}
theorem InvW.look (h : TF P ops fc call meth flat T fr0 frn M0 Mn) (hi : InvW P ops flat T fr0 frn M0 Mn B w0 σ0 df C listed act w σ m X) {i : Nat} (hin : i ≤ ops.size) {t : Tmp}
    (hlt : ∀ k, k < i → dstOf ops k = some t → listed.getD k false = true) (hge : ∀ k, i ≤ k → listed.getD k false = true → dstOf ops k ≠ some t) {v : AVal} (hv : (fmT T frn i).g t = some v) :
    okS (Sx flat T Mn listed m) v ∧ act.tmps.getD t undef = conc σ v := by
  rcases h.lastw t i hin with ⟨k, k1, k2, k3, k4⟩ | ⟨k1, k2⟩
  · refine (hi.wr t k (hlt k k1 k2) k2 ?_).1 v (by rw [← k4]; exact hv)
    intro j hj hd
    by_cases hji : i ≤ j
    · exact absurd hd (hge j hji hj)
    · by_cases hjk : k < j
      · exact absurd hd (k3 j hjk (by omega))
      · omega
  · refine hi.nw t ?_ v (by rw [← k2]; exact hv)
    intro j hj hd
    by_cases hji : i ≤ j
    · exact hge j hji hj hd
    · exact k1 j (by omega) hd
theorem dst_lt {k : Nat} {t : Tmp} (hk : dstOf ops k = some t) : k < ops.size := by
  unfold dstOf at hk
  cases hx : ops[k]? with
  | none => simp [hx] at hk
  | some y => exact (Array.getElem?_eq_some_iff.1 hx).1
theorem seesW (h : TF P ops fc call meth flat T fr0 frn M0 Mn) (hd : DOkW ops flat ps) (hi : InvW P ops flat T fr0 frn M0 Mn B w0 σ0 df C listed act w σ m X) {i : Nat} {o : Oper} (ho : ops[i]? = some o)
    (hun : listed.getD i false = false) (hall : ∀ k ∈ direct o, listed.getD k false = true) {t : Tmp} (ht : t ∈ rdOf ops flat i) {v : AVal} (hv : (fmT T frn i).g t = some v) :
    okS (Sx flat T Mn listed m) v ∧ act.tmps.getD t undef = conc σ v := by
  have hio : i < ops.size := (Array.getElem?_eq_some_iff.1 ho).1
  refine hi.look h (by omega) ?_ ?_ hv
  · intro k hk hdk
    rcases standsW hd hi ho hun hall (dst_lt hdk) (by omega) with ⟨_, h1⟩ | ⟨h1, _⟩ | ⟨h1 | h1, _⟩
    · exact h1
    · omega
    · exact absurd ht ((apartB_spec h1).1 t hdk).1
    · exact absurd ht ((apartB_spec h1).2 t hdk)
  · intro k hk hl hdk
    have hne : k ≠ i := fun e => by subst e; rw [hun] at hl; cases hl
    rcases standsW hd hi ho hun hall (dst_lt hdk) hne with ⟨h1, _⟩ | ⟨_, h1⟩ | ⟨h1 | h1, _⟩
    · omega
    · rw [h1] at hl; cases hl
    · exact absurd ht ((apartB_spec h1).1 t hdk).1
    · exact absurd ht ((apartB_spec h1).2 t hdk)
theorem readW (h : TF P ops fc call meth flat T fr0 frn M0 Mn) (hd : DOkW ops flat ps) (hps : chkPairs T Mn ps = true) (hi : InvW P ops flat T fr0 frn M0 Mn B w0 σ0 df C listed act w σ m X)
    (hmax : m = ops.size ∨ (EffAt flat T m ∧ listed.getD m false = false)) {i : Nat} {o : Oper} {a : AOp} {v : AVal} (ho : ops[i]? = some o)
    (ha : flat[i]? = some a) (hun : listed.getD i false = false) (hall : ∀ k ∈ direct o, listed.getD k false = true) (hst : T[i]? = some ⟨fmT T frn i, mmT T Mn i, a, some v⟩)
    (hE : isEff a = false) (hr : isRd a = true) (hF : memFree a = false) (he : evalOp fc call meth a (fmT T frn i) (mmT T Mn i) K0 = some (v, mmT T Mn (i + 1))) :
    evalOp fc call meth a (fmT T frn i) (mmT T Mn m) K0 = some (v, mmT T Mn m) := by
  have hio : i < ops.size := (Array.getElem?_eq_some_iff.1 ho).1
  have heffi : effAt flat i = false := by simp [effAt, ha, hE]
  have hmf : memAt flat i = false := by simp [memAt, ha, hF]
  have hne : ∀ k, EffAt flat T k → k ≠ i := fun k hk e => by subst e; have := hk.1; rw [heffi] at this; cases this
  have hun2 : ∀ k, EffAt flat T k → ((k < i ∧ listed.getD k false = true) ∨ (i < k ∧ listed.getD k false = false) ∨ (i, k) ∈ ps) := by
    intro k hk
    rcases standsW hd hi ho hun hall (h.ks hk) (hne k hk) with h1 | h1 | ⟨_, _, h1⟩
    · exact .inl h1
    · exact .inr (.inl h1)
    · rcases h1 hk.1 heffi with h1 | h1 | h1
      · rw [hmf] at h1; cases h1
      · exact .inr (.inr h1.2)
      · have h2 := h1.1
        simp only [crAt, ha, Option.any_some] at h2
        cases a <;> simp [isCR, isRd] at h2 hr
  have hsame := noneff_same hE he
  rw [hsame] at he
  have hpair : ∀ k, EffAt flat T k → (i, k) ∈ ps → stillAt a (fmT T frn i) v (cond (Nat.blt k i) (mmT T Mn k) (mmT T Mn (k + 1))) = true := by
    intro k hk hkp
    have := chkPairs_mem hps (i, k) hkp
    obtain ⟨_, R, u, hR, hu⟩ := hk
    unfold chkPair at this
    simp only [hst, hR, hu] at this
    have e1 : mmT T Mn k = R.M := by simp [mmT, hR]
    have e2 : mmT T Mn (k + 1) = memAfter T Mn k := rfl
    rw [e1, e2]
    exact this
  by_cases hmi : m < i
  ·
    rcases hmax with e | ⟨e1, e2⟩
    · omega
    · rcases hun2 m e1 with ⟨_, h2⟩ | ⟨h2, _⟩ | h2
      · rw [e2] at h2; cases h2
      · omega
      · have := hpair m e1 h2
        rw [Mem.blt_iff.2 hmi, cond_true] at this
        exact redo_at hr he this
  · by_cases hb : ∃ k, EffAt flat T k ∧ i < k ∧ k < m
    · obtain ⟨k0, hk0, ka, kb⟩ := hb
      have hex : ∃ d, (EffAt flat T (m - 1 - d) ∧ i < m - 1 - d ∧ d < m) := ⟨m - 1 - k0, by rw [show m - 1 - (m - 1 - k0) = k0 from by omega]; exact ⟨hk0, ka, by omega⟩⟩
      obtain ⟨d1, ⟨q1, q2, q3⟩, q4⟩ := least_of hex
      obtain ⟨k1, hk1⟩ : ∃ k, k = m - 1 - d1 := ⟨_, rfl⟩
      rw [← hk1] at q1 q2
      have hm1 : mmT T Mn m = mmT T Mn (k1 + 1) := h.mm_eq (by omega) hi.mle (fun k a1 a2 hk => q4 (m - 1 - k) (by omega) (by rw [show m - 1 - (m - 1 - k) = k from by omega]; exact ⟨hk, by omega, by omega⟩))
      have hpp : (i, k1) ∈ ps := by
        rcases hun2 k1 q1 with ⟨h1, _⟩ | ⟨_, h2⟩ | h1
        · omega
        · have := hi.lo k1 q1 (by omega); rw [h2] at this; cases this
        · exact h1
      have hbf : Nat.blt k1 i = false := by
        cases hbb : Nat.blt k1 i
        · rfl
        · have := Mem.blt_iff.1 hbb; omega
      have := hpair k1 q1 hpp
      rw [hbf, cond_false, ← hm1] at this
      exact redo_at hr he this
    · have hmem : mmT T Mn m = mmT T Mn i := h.mm_eq (by omega) hi.mle (fun k a1 a2 hk => by
        have := hne k hk
        exact hb ⟨k, hk, by omega, a2⟩)
      rw [hmem]; exact he
theorem TF.get_le (h : TF P ops fc call meth flat T fr0 frn M0 Mn) : ∀ (d a : Nat), a + d ≤ ops.size → (∀ k, a ≤ k → k < a + d → EffAt flat T k → weakAt flat k = true) → ∀ o, o < (mmT T Mn a).n → (mmT T Mn (a + d)).get o = (mmT T Mn a).get o
  | 0, a, _, _, o, _ => rfl
  | d + 1, a, hle, hw, o, ho => by
    have q := h.get_le d a (by omega) (fun k h1 h2 => hw k h1 (by omega)) o ho
    have qn := (h.n_le d a (by omega) (fun k h1 h2 => hw k h1 (by omega))).1
    rw [← q, show a + (d + 1) = (a + d) + 1 from by omega]
    by_cases e : EffAt flat T (a + d)
    · obtain ⟨x, hx⟩ := h.weak e (hw _ (by omega) (by omega) e)
      rw [hx, Mem.get_alloc, if_neg (by omega)]
    · rw [h.mm_step (by omega) e]
theorem cr_more {a : AOp} (ha : isCR a = true) {fr : Fr} {v : AVal} {M M1 X : Mem} (h : ∀ o x, M.get o = some x → X.get o = some x) (he : evalOp fc call meth a fr M K0 = some (v, M1)) : evalOp fc call meth a fr X K0 = some (v, X) ∧ AVal.pf v = true := by
  cases a <;> simp [isCR] at ha
  rename_i f x t
  simp only [evalOp, ev_eq, bind_some'] at he ⊢
  obtain ⟨u, hu, he⟩ := he
  obtain ⟨p, l, cp, y, rfl, hy, hpf, hfl, r, hr', hs, he⟩ := readK_some he
  have he2 := castRs_some he
  simp only [cond_none] at he2
  obtain ⟨hpv, he2⟩ := he2
  obtain ⟨rfl, rfl⟩ := Prod.mk.inj (Option.some.inj he2)
  refine ⟨⟨_, hu, ?_⟩, hpv⟩
  unfold readK
  simp only [h _ _ hy, Option.bind_some, hpf, hfl, Bool.and_self, cond_true, hr', hs]
  have hc : ∀ (N : Mem) (v : AVal), (r.1.castRs t fun u => cond (AVal.pf u) (K0 u M) none) = some (v, M) → (r.1.castRs t fun u => cond (AVal.pf u) (K0 u N) none) = some (v, N) := fun N v hh => by
    have e1 : ∀ N : Mem, (fun u => cond (AVal.pf u) (K0 u N) none) = fun u => (cond (AVal.pf u) (some u) none).bind fun u => some (u, N) := fun N => by
      funext u
      cases AVal.pf u <;> rfl
    rw [e1] at hh ⊢
    rw [← castRs_bind (f := fun u => some (u, M))] at hh
    rw [← castRs_bind (f := fun u => some (u, N))]
    obtain ⟨u, hu, hh⟩ := bind_some'.1 hh
    rw [hu]
    obtain ⟨rfl, -⟩ := Prod.mk.inj (Option.some.inj hh)
    rfl
  exact hc X _ he
theorem readR (h : TF P ops fc call meth flat T fr0 frn M0 Mn) (hd : DOkW ops flat ps) (hi : InvW P ops flat T fr0 frn M0 Mn B w0 σ0 df C listed act w σ m X)
    (hmax : m = ops.size ∨ (EffAt flat T m ∧ listed.getD m false = false)) {i : Nat} {o : Oper} {a : AOp} {v : AVal} (ho : ops[i]? = some o)
    (ha : flat[i]? = some a) (hun : listed.getD i false = false) (hall : ∀ k ∈ direct o, listed.getD k false = true) (hc : isCR a = true)
    (he : evalOp fc call meth a (fmT T frn i) (mmT T Mn i) K0 = some (v, mmT T Mn (i + 1))) :
    evalOp fc call meth a (fmT T frn i) X K0 = some (v, X) ∧ AVal.pf v = true := by
  have hio : i < ops.size := (Array.getElem?_eq_some_iff.1 ho).1
  have hkind : isEff a = false ∧ memFree a = false ∧ isRd a = false := by
    cases a <;> simp [isCR] at hc
    exact ⟨rfl, rfl, rfl⟩
  have heffi : effAt flat i = false := by simp [effAt, ha, hkind.1]
  have hmf : memAt flat i = false := by simp [memAt, ha, hkind.2.1]
  have hrf : rdAt flat i = false := by simp [rdAt, ha, hkind.2.2]
  have hne : ∀ k, EffAt flat T k → k ≠ i := fun k hk e => by subst e; have := hk.1; rw [heffi] at this; cases this
  have hun2 : ∀ k, EffAt flat T k → ((k < i ∧ listed.getD k false = true) ∨ (i < k ∧ listed.getD k false = false) ∨ (weakAt flat k = true ∧ i < k)) := by
    intro k hk
    rcases standsW hd hi ho hun hall (h.ks hk) (hne k hk) with h1 | h1 | ⟨_, _, h1⟩
    · exact .inl h1
    · exact .inr (.inl h1)
    · rcases h1 hk.1 heffi with h1 | h1 | h1
      · rw [hmf] at h1; cases h1
      · rw [hrf] at h1; cases h1.1
      · exact .inr (.inr h1.2)
  have him : i ≤ m := by
    rcases hmax with e | ⟨e1, e2⟩
    · omega
    · rcases hun2 m e1 with ⟨_, h2⟩ | ⟨h2, _⟩ | ⟨_, h2⟩
      · rw [e2] at h2; cases h2
      · omega
      · omega
  refine cr_more hc (fun o' x hx => ?_) he
  have hlt := Mem.get_lt hx
  have hw : ∀ k, i ≤ k → k < i + (m - i) → EffAt flat T k → weakAt flat k = true := fun k k1 k2 hk => by
    rcases hun2 k hk with ⟨h1, _⟩ | ⟨_, h2⟩ | ⟨h1, _⟩
    · omega
    · have := hi.lo k hk (by omega); rw [h2] at this; cases this
    · exact h1
  have hmle := hi.mle
  have e1 := h.get_le (m - i) i (by omega) hw o' hlt
  have e2 := (h.n_le (m - i) i (by omega) hw).1
  rw [show i + (m - i) = m from by omega] at e1 e2
  rw [hi.x1 o' (by omega), e1, hx]
theorem ez_kind {a : AOp} (h : ez a = true) (hE : isEff a = false) : memFree a = true ∨ (isRd a = true ∧ memFree a = false) := by
  cases a <;> simp [ez, isRd, memFree, isEff, isLoad] at h hE ⊢
theorem fm_len (h : TF P ops fc call meth flat T fr0 frn M0 Mn) : ∀ k, k ≤ ops.size → List.length (fmT T frn k) = List.length fr0 := by
  intro k
  induction k with
  | zero => intro _; rw [h.f0]
  | succ k ih =>
    intro hk
    obtain ⟨o2, a2, st2, q1, q2, q3, q4, q5⟩ := h.step k (by omega)
    have hl : ∀ (fr : Fr) (d : Option Tmp) (v : AVal), List.length (fr.put d v) = List.length fr := fun fr d v => by cases d with | none => rfl | some t => exact Fr.length_s _ _ _
    have hl2 : ∀ (fr : Fr) (d : Option Tmp), List.length (fr.killO d) = List.length fr := fun fr d => by cases d with | none => rfl | some t => exact Fr.length_s _ _ _
    rcases q5 with ⟨v, _, _, e, _⟩ | ⟨_, e, _, _⟩
    · rw [e, hl, ih (by omega)]
    · rw [e, hl2, ih (by omega)]
theorem wrW (hd : DOkW ops flat ps) (hi : InvW P ops flat T fr0 frn M0 Mn B w0 σ0 df C listed act w σ m X) {i : Nat} {o : Oper} (ho : ops[i]? = some o) (hun : listed.getD i false = false) (hall : ∀ k ∈ direct o, listed.getD k false = true)
    {S' : Nat → Prop} {act' : Act} {val : Value} (hS : ∀ u, okS (Sx flat T Mn listed m) u → okS S' u ∧ conc σ' u = conc σ u) (htm : act'.tmps = (act.put o.dst val).tmps)
    (hnew : ∀ t, o.dst = some t → (∀ v, (fmT T frn (i + 1)).g t = some v → okS S' v ∧ act'.tmps.getD t undef = conc σ' v) ∧ ((∃ R, T[i]? = some R ∧ R.st = none) → boolOf act'.tmps[t]? = none)) :
    (∀ t k, (listed.setIfInBounds i true).getD k false = true → dstOf ops k = some t → (∀ j, (listed.setIfInBounds i true).getD j false = true → dstOf ops j = some t → j ≤ k) →
        (∀ v, (fmT T frn (k + 1)).g t = some v → okS S' v ∧ act'.tmps.getD t undef = conc σ' v) ∧ ((∃ R, T[k]? = some R ∧ R.st = none) → boolOf act'.tmps[t]? = none)) ∧
      (∀ t, (∀ j, (listed.setIfInBounds i true).getD j false = true → dstOf ops j ≠ some t) → ∀ v, fr0.g t = some v → okS S' v ∧ act'.tmps.getD t undef = conc σ' v) := by
  have hio : i < ops.size := (Array.getElem?_eq_some_iff.1 ho).1
  have hsz : i < listed.size := by rw [hi.size]; exact hio
  have hset : ∀ k, (listed.setIfInBounds i true).getD k false = true ↔ (listed.getD k false = true ∨ k = i) := fun k => by
    rw [getD_set]; simp [hsz]
  have hlast : ∀ t, dstOf ops i = some t → ∀ j, listed.getD j false = true → dstOf ops j = some t → j ≤ i := by
    intro t hdi j hj hdj
    have hne : j ≠ i := fun e => by subst e; rw [hun] at hj; cases hj
    rcases standsW hd hi ho hun hall (dst_lt hdj) hne with ⟨h1, _⟩ | ⟨_, h1⟩ | ⟨h1 | h1, _⟩
    · omega
    · rw [h1] at hj; cases hj
    · exact absurd hdi ((apartB_spec h1).1 t hdj).2
    · exact absurd hdj ((apartB_spec h1).1 t hdi).2
  have hdi : dstOf ops i = o.dst := by simp [dstOf, ho]
  have hother : ∀ t, o.dst ≠ some t → act'.tmps[t]? = act.tmps[t]? := by
    intro t ht
    rw [htm]
    cases hdd : o.dst with
    | none => rfl
    | some u =>
      simp only [Act.put]
      rw [Array.getElem?_setIfInBounds_ne (fun e => ht (by rw [hdd, e]))]
  refine ⟨fun t k hk hdk hmax => ?_, fun t hno v hv => ?_⟩
  · by_cases e : k = i
    · subst e
      exact hnew t (by rw [← hdi]; exact hdk)
    · have hkl : listed.getD k false = true := by
        rcases (hset k).1 hk with h1 | h1
        · exact h1
        · exact absurd h1 e
      have hnt : o.dst ≠ some t := by
        intro hdt
        have h1 := hmax i ((hset i).2 (.inr rfl)) (by rw [hdi]; exact hdt)
        have h2 := hlast t (by rw [hdi]; exact hdt) k hkl hdk
        omega
      obtain ⟨q1, q2⟩ := hi.wr t k hkl hdk (fun j hj hdj => hmax j ((hset j).2 (.inl hj)) hdj)
      rw [Array.getD_eq_getD_getElem?, hother t hnt, ← Array.getD_eq_getD_getElem?]
      refine ⟨fun v hv => ?_, q2⟩
      obtain ⟨a1, a2⟩ := q1 v hv
      exact ⟨(hS v a1).1, by rw [a2, (hS v a1).2]⟩
  · have hnt : o.dst ≠ some t := fun hdt => hno i ((hset i).2 (.inr rfl)) (by rw [hdi]; exact hdt)
    rw [Array.getD_eq_getD_getElem?, hother t hnt, ← Array.getD_eq_getD_getElem?]
    obtain ⟨a1, a2⟩ := hi.nw t (fun j hj => hno j ((hset j).2 (.inl hj))) v hv
    exact ⟨(hS v a1).1, by rw [a2, (hS v a1).2]⟩
end
end Go.Abs
set_option linter.unusedVariables false
set_option linter.unusedSimpArgs false
namespace Go.Abs
open Go.RowKit
section
variable {P : Program} {ops : Array Oper} {fc : Bool} {call : CallF} {meth : MethF} {flat : List AOp} {T : List TRec} {fr0 frn : Fr} {M0 Mn : Mem} {ps : List (Nat × Nat)}
variable {B : Nat → Prop} {w0 w : World} {σ0 σ σ' : Env} {df : List Deferred} {listed : Array Bool} {act : Act} {m C : Nat} {X : Mem} {Q : Exit → Act → World → Prop}
theorem conc_mk {mk : Nat → AVal} (hmk : MkV mk) {σ σ' : Env} {a b : Nat} (h1 : σ.blk a = σ'.blk b) (h2 : σ.off a = σ'.off b) (h3 : σ.cap a = σ'.cap b) : conc σ (mk a) = conc σ' (mk b) := by
  cases hmk <;> simp [conc, cAddr, capOf, h1, h2, h3]
theorem okS_mk {mk : Nat → AVal} (hmk : MkV mk) {S : Nat → Prop} {n : Nat} (h : S n) : okS S (mk n) := by
  cases hmk <;> simp only [okS] <;> (rintro p hp; obtain rfl := Option.some.inj hp; exact h)
theorem stepW (hcall : CallOk P call) (hmeth : MethOk P meth) (h : TF P ops fc call meth flat T fr0 frn M0 Mn) (hd : DOkW ops flat ps) (hps : chkPairs T Mn ps = true) (hC : ∀ k, k ≤ ops.size → (mmT T Mn k).n < C)
    (hi : InvW P ops flat T fr0 frn M0 Mn B w0 σ0 df C listed act w σ m X) {i : Nat} (hrd : i ∈ Region.ready .any ops listed) {K : Act → World → Prop}
    (hK : ∀ act' w' σ' m' X', InvW P ops flat T fr0 frn M0 Mn B w0 σ0 df C (listed.setIfInBounds i true) act' w' σ' m' X' → K act' w') : wpOp P ops Q i K act w := by
  obtain ⟨m, hi, hmax⟩ := hi.far h _ rfl
  obtain ⟨hun, o, ho, hall0⟩ := mem_ready.1 hrd
  have hio : i < ops.size := (Array.getElem?_eq_some_iff.1 ho).1
  have hall : ∀ k ∈ direct o, listed.getD k false = true := fun k hk => by
    obtain ⟨e, he, hb, rfl⟩ := mem_direct.1 hk
    exact hall0 e he hb
  have hunf : listed.getD i false = false := getD_tf hun
  obtain ⟨o', a, st, ho', ha, hok, hT, hcase⟩ := h.step i hio
  rw [ho] at ho'
  obtain rfl := Option.some.inj ho'
  have hsz : i < listed.size := by rw [hi.size]; exact hio
  have hset : ∀ k, (listed.setIfInBounds i true).getD k false = true ↔ (listed.getD k false = true ∨ k = i) := fun k => by
    rw [getD_set]; simp [hsz]
  have hrdT : ∀ j w t, o.guard = some (j, w) → dstOf ops j = some t → t ∈ rdOf ops flat i := by
    intro j w t hg hdj
    simp [rdOf, ho, hg, hdj]
  have hclosed : ∀ (j : Nat) (o : Oper), ops[j]? = some o → (listed.setIfInBounds i true).getD j false = true → ∀ k ∈ direct o, (listed.setIfInBounds i true).getD k false = true := by
    intro j oj hj hl k hk
    rw [hset] at hl ⊢
    rcases hl with hl | rfl
    · exact .inl (hi.closed j oj hj hl k hk)
    · rw [ho] at hj
      obtain rfl := Option.some.inj hj
      exact .inl (hall k hk)
  have hSC : ∀ o, Sx flat T Mn listed m o → o < C := by
    rintro o (h1 | ⟨k, k1, k2, k3, rfl⟩)
    · have := hC m hi.mle; omega
    · exact hC k (Nat.le_of_lt (h.ks k2))
  have hSno : ¬ EffAt flat T i → Sx flat T Mn (listed.setIfInBounds i true) m = Sx flat T Mn listed m := by
    intro hne
    funext o
    refine propext ⟨?_, ?_⟩ <;> rintro (h1 | ⟨k, k1, k2, k3, k4⟩)
    · exact .inl h1
    · rcases (hset k).1 k3 with k3 | rfl
      · exact .inr ⟨k, k1, k2, k3, k4⟩
      · exact absurd k2 hne
    · exact .inl h1
    · exact .inr ⟨k, k1, k2, (hset k).2 (.inl k3), k4⟩
  have hkeep : ¬ EffAt flat T i → ∀ {act' : Act} {w' : World} {σ' : Env} {val : Value}, Rep σ' B w0 X w' → Env.ext X.n σ σ' → act' = act.put o.dst val →
      (∀ t, o.dst = some t → (∀ v, (fmT T frn (i + 1)).g t = some v → okS (Sx flat T Mn listed m) v ∧ act'.tmps.getD t undef = conc σ' v) ∧ ((∃ R, T[i]? = some R ∧ R.st = none) → boolOf act'.tmps[t]? = none)) → K act' w' := by
    intro hne act' w' σ' val hr' hx hact hnew
    have hu : ∀ u, okS (Sx flat T Mn listed m) u → okS (Sx flat T Mn listed m) u ∧ conc σ' u = conc σ u := fun u hu => ⟨hu, conc_ext hx u (by rw [hi.xn]; exact ok_okS hSC u hu)⟩
    obtain ⟨q1, q2⟩ := wrW hd hi ho hunf hall hu (by rw [hact]) hnew
    refine hK _ w' σ' m X ⟨by simp [hi.size], hclosed, hi.mle, fun k k1 k2 => (hset k).2 (.inl (hi.lo k k1 k2)), fun k k1 k2 k3 => ?_, hi.xn, hi.x1, fun k k1 k2 k3 => ?_, by rw [hSno hne]; exact hi.x3, by rw [hSno hne]; exact hi.xs, hr', ?_, hi.nle, ?_, ?_, by rw [hSno hne]; exact q1, by rw [hSno hne]; exact q2⟩
    · rcases (hset k).1 k3 with k3 | rfl
      · exact hi.wk k k1 k2 k3
      · exact absurd k1 hne
    · rcases (hset k).1 k3 with k3 | rfl
      · exact hi.x2 k k1 k2 k3
      · exact absurd k1 hne
    · refine hi.ext.trans hx ?_
      have := hC m hi.mle
      have := hi.nle
      rw [hi.xn]; omega
    · rw [hact, ← hi.dfs]; cases o.dst <;> rfl
    · rw [hact, hi.len]; cases o.dst <;> simp [Act.put]
  unfold wpOp
  rw [ho]
  rcases hcase with ⟨v, rfl, he, hfm, hg⟩ | ⟨rfl, hfm, hmm, j, wv, hg, hno⟩
  ·
    have hw : Region.wanted o (yielded ops act.tmps) = true := by
      rcases hg with hg | ⟨j, wv, t, hg, hdj, hv⟩
      · simp [Region.wanted, hg]
      · obtain ⟨-, hval⟩ := seesW h hd hi ho hunf hall (hrdT j wv t hg hdj) hv
        have hb : act.tmps[t]? = some (.bool wv) := by
          rw [Array.getD_eq_getD_getElem?] at hval
          cases hx : act.tmps[t]? with
          | none => rw [hx] at hval; simp [undef, conc] at hval
          | some y => rw [hx] at hval; simpa [conc] using hval
        simp only [Region.wanted, hg]
        rw [yielded_eq]
        have : (ops[j]?).bind (·.dst) = some t := hdj
        rw [this]
        simp [hb, boolOf]
    simp only [hw, if_true]
    left
    have hfr : ∀ n, (∀ u, okS (Sx flat T Mn listed m) u → ok n u) → FrR σ n (Fr.only (rdOf ops flat i) 0 (fmT T frn i)) act.tmps := by
      intro n hn
      refine ⟨?_, fun t x hx => ?_⟩
      · rw [Fr.only_length, ← hi.len]
        exact fm_len h i (by omega)
      · rw [Fr.only_g, Nat.zero_add] at hx
        split at hx
        · rename_i hmem
          obtain ⟨a1, a2⟩ := seesW h hd hi ho hunf hall hmem hx
          exact ⟨hn _ a1, a2⟩
        · cases hx
    have hcg : ∀ (Y : Mem), evalOp fc call meth a (Fr.only (rdOf ops flat i) 0 (fmT T frn i)) Y K0 = evalOp fc call meth a (fmT T frn i) Y K0 := by
      intro Y
      refine evalOp_congr (fun t ht => ?_)
      rw [Fr.only_g, Nat.zero_add, if_pos]
      simp [rdOf, ha, ht]
    have hat : ∀ t ∈ aTemps a, ∀ u, (fmT T frn i).g t = some u → okS (Sx flat T Mn listed m) u := fun t ht u hu => (seesW h hd hi ho hunf hall (by simp [rdOf, ha, ht]) hu).1
    have hput : ∀ {S' : Nat → Prop} {σ' : Env}, okS S' v → ∀ t, o.dst = some t → (∀ x, (fmT T frn (i + 1)).g t = some x → okS S' x ∧ (act.put o.dst (conc σ' v)).tmps.getD t undef = conc σ' x) ∧ ((∃ R, T[i]? = some R ∧ R.st = none) → boolOf (act.put o.dst (conc σ' v)).tmps[t]? = none) := by
      intro S' σ' hv t ht
      refine ⟨fun x hxv => ?_, fun ⟨R, hR, hst⟩ => ?_⟩
      · rw [hfm, ht] at hxv
        simp only [Fr.put] at hxv
        rw [Fr.g_s] at hxv
        by_cases hlt : t < List.length (fmT T frn i)
        · rw [if_pos ⟨rfl, hlt⟩] at hxv
          obtain rfl := Option.some.inj hxv
          refine ⟨hv, ?_⟩
          have hlt' : t < act.tmps.size := by rw [← hi.len, ← fm_len h i (by omega)]; exact hlt
          rw [ht]
          simp [Act.put, Array.getD_eq_getD_getElem?, hlt']
        · rw [if_neg (fun e => hlt e.2), Fr.g_eq, List.getElem?_eq_none (Nat.le_of_not_lt hlt)] at hxv
          cases hxv
      · rw [hT] at hR
        obtain rfl := Option.some.inj hR
        cases hst
    cases hE : isEff a with
    | false =>
      have heffi : effAt flat i = false := by simp [effAt, ha, hE]
      have hne : ¬ EffAt flat T i := fun e => by have := e.1; rw [heffi] at this; cases this
      have hboth : evalOp fc call meth a (fmT T frn i) X K0 = some (v, X) ∧ okS (Sx flat T Mn listed m) v := by
        have hcase2 : ez a = true ∨ isCR a = true := by
          rcases hd.easy i hio with e | e | e
          · rw [heffi] at e; cases e
          · left; simpa [ezAt, ha] using e
          · right; simpa [crAt, ha] using e
        rcases hcase2 with hez | hcr
        · have heX : evalOp fc call meth a (fmT T frn i) X K0 = some (v, X) := by
            rcases ez_kind hez hE with hF | ⟨hR, hF⟩
            · exact (free_same hF he).2 X
            · refine rd_more hR (fun o x hx => ?_) (readW h hd hps hi hmax ho ha hunf hall hT hE hR hF he)
              rw [hi.x1 o (Mem.get_lt hx)]; exact hx
          exact ⟨heX, ez_okS hez heX hat hi.xs (fun {o i u} hl => (hi.rep.cell hl).2.2)⟩
        · obtain ⟨heX, hpv⟩ := readR h hd hi hmax ho ha hunf hall hcr he
          exact ⟨heX, pf_okS hpv⟩
      obtain ⟨heX, hv⟩ := hboth
      refine op_sound hcall hmeth hi.rep (hfr X.n (fun u hu => by rw [hi.xn]; exact ok_okS hSC u hu)) hok ((hcg X).trans heX) ?_
      intro σ' w' hr' hx hn hokv
      exact hkeep hne hr' hx rfl (hput hv)
    | true =>
      have heffi : effAt flat i = true := by simp [effAt, ha, hE]
      have hEi : EffAt flat T i := ⟨heffi, _, v, hT, rfl⟩
      have hmi : m ≤ i := by
        rcases Nat.lt_or_ge i m with hlt | hge
        · have := hi.lo i hEi hlt
          rw [hunf] at this; cases this
        · exact hge
      cases hW : isWeak a with
      | true =>
        have hwi : weakAt flat i = true := by simp [weakAt, ha, hW]
        obtain ⟨cs, mk, hmk, rfl, hM1, hany, hcs⟩ := weak_spec hW he
        have hcsS := hcs _ hat
        obtain ⟨q, hq⟩ : ∃ q, q = (mmT T Mn i).n := ⟨_, rfl⟩
        have hqC : q < C := by rw [hq]; exact hC i (by omega)
        have hweak : ∀ k, m ≤ k → k < i → EffAt flat T k → weakAt flat k = true := by
          intro k k1 k2 k3
          cases hl : listed.getD k false with
          | true => exact hi.wk k k3 k1 hl
          | false => exact left_weak hd hi.closed ho hall heffi k2 k3.1 hl
        have hmq : (mmT T Mn m).n ≤ q := by rw [hq]; exact (h.n_le' hmi (by omega) hweak).1
        have hnew : ∀ k, m ≤ k → EffAt flat T k → listed.getD k false = true → (mmT T Mn k).n ≠ q := by
          intro k k1 k2 k3
          rcases Nat.lt_trichotomy k i with hlt | rfl | hgt
          · have := (h.n_le' (Nat.le_of_lt hlt) (by omega) (fun k' a1 a2 a3 => hweak k' (by omega) a2 a3)).2 ⟨k, Nat.le_refl _, hlt, k2⟩
            rw [hq]; omega
          · rw [hunf] at k3; cases k3
          · have hks := h.ks k2
            have hok' : ops[k]? = some ops[k] := by simp [hks]
            have := (h.n_le' (Nat.le_of_lt hgt) (by omega) (fun k' a1 a2 a3 => by
              cases hl : listed.getD k' false with
              | true => exact hi.wk k' a3 (by omega) hl
              | false => exact left_weak hd hi.closed hok' (hi.closed k _ hok' k3) k2.1 a2 a3.1 hl)).2 ⟨i, Nat.le_refl _, hgt, hEi⟩
            rw [hq]; omega
        have hqS : ¬ Sx flat T Mn listed m q := by
          rintro (h1 | ⟨k, k1, k2, k3, k4⟩)
          · omega
          · exact hnew k k1 k2 k3 k4.symm
        have hS' : ∀ o, Sx flat T Mn (listed.setIfInBounds i true) m o ↔ (Sx flat T Mn listed m o ∨ o = q) := by
          intro o
          constructor
          · rintro (h1 | ⟨k, k1, k2, k3, k4⟩)
            · exact .inl (.inl h1)
            · rcases (hset k).1 k3 with k3 | rfl
              · exact .inl (.inr ⟨k, k1, k2, k3, k4⟩)
              · exact .inr (by rw [k4, hq])
          · rintro ((h1 | ⟨k, k1, k2, k3, k4⟩) | rfl)
            · exact .inl h1
            · exact .inr ⟨k, k1, k2, (hset k).2 (.inl k3), k4⟩
            · exact .inr ⟨i, hmi, hEi, (hset i).2 (.inr rfl), hq⟩
        refine op_sound hcall hmeth hi.rep (hfr X.n (fun u hu => by rw [hi.xn]; exact ok_okS hSC u hu)) hok ((hcg X).trans (hany X)) ?_
        intro σ' w' hr' hx hn hokv
        rw [hi.xn] at hx hokv
        obtain ⟨σ'', hσ⟩ : ∃ σ'' : Env, σ'' = ⟨fun o => if o = q then σ'.blk C else σ'.blk o, fun o => if o = q then σ'.off C else σ'.off o, fun o => if o = q then σ'.cap C else σ'.cap o⟩ := ⟨_, rfl⟩
        have hσq : σ''.blk q = σ'.blk C ∧ σ''.off q = σ'.off C ∧ σ''.cap q = σ'.cap C := by subst hσ; simp
        have hσn : ∀ o, o ≠ q → σ''.blk o = σ'.blk o ∧ σ''.off o = σ'.off o ∧ σ''.cap o = σ'.cap o := fun o ho => by subst hσ; simp [ho]
        have hon : Env.on (Sx flat T Mn listed m) σ' σ'' := fun o hoS => hσn o (fun e => hqS (by rw [← e]; exact hoS))
        have hon0 : Env.on (Sx flat T Mn listed m) σ σ'' := fun o hoS => by
          obtain ⟨a1, a2, a3⟩ := hon o hoS
          obtain ⟨b1, b2, b3⟩ := hx o (hSC o hoS)
          exact ⟨a1.trans b1, a2.trans b2, a3.trans b3⟩
        have hgX : ∀ o, (X.put q ⟨cs, .fixed⟩).get o = if o = q then some ⟨cs, .fixed⟩ else X.get o := fun o => by
          rw [Mem.get_put]
          by_cases e : o = q
          · rw [if_pos e, if_pos ⟨e, by rw [hi.xn]; exact hqC⟩]
          · rw [if_neg e, if_neg (fun h => e h.1)]
        have hga : ∀ o, o < C → (X.alloc ⟨cs, .fixed⟩).get o = X.get o := fun o ho => by
          rw [Mem.get_alloc, hi.xn, if_neg (by omega)]
        have hgC : (X.alloc ⟨cs, .fixed⟩).get C = some ⟨cs, .fixed⟩ := by rw [Mem.get_alloc, hi.xn, if_pos rfl]
        have hob : ∀ o x, (X.put q ⟨cs, .fixed⟩).get o = some x → ∃ p, (X.alloc ⟨cs, .fixed⟩).get p = some x ∧ σ''.blk o = σ'.blk p ∧ σ''.off o = σ'.off p ∧ σ''.cap o = σ'.cap p ∧ okSL (Sx flat T Mn listed m) x.cells ∧ ((o = q ∧ p = C ∧ x.kind = .fixed) ∨ (o ≠ q ∧ p = o ∧ o < C)) := by
          intro o x hxo
          rw [hgX] at hxo
          by_cases e : o = q
          · rw [if_pos e] at hxo
            obtain rfl := Option.some.inj hxo
            subst e
            exact ⟨C, hgC, hσq.1, hσq.2.1, hσq.2.2, hcsS, .inl ⟨rfl, rfl, rfl⟩⟩
          · rw [if_neg e] at hxo
            have hoC : o < C := by rw [← hi.xn]; exact Mem.get_lt hxo
            obtain ⟨a1, a2, a3⟩ := hσn o e
            exact ⟨o, by rw [hga o hoC]; exact hxo, a1, a2, a3, hi.xs o x hxo, .inr ⟨e, rfl, hoC⟩⟩
        have hrX : Rep σ'' B w0 (X.put q ⟨cs, .fixed⟩) w' := by
          refine ⟨fun o x hxo => ?_, fun o x hxo => ?_, fun o o' x x' l l' hxo hxo' hl hl' hb => ?_, hr'.below, hr'.size, fun o o' x x' t t' hxo hxo' hl hl' hb => ?_⟩
          · obtain ⟨p, p1, -, -, -, p5, -⟩ := hob o x hxo
            exact ⟨okL_okS (n := (X.put q ⟨cs, .fixed⟩).n) (fun o ho => by rw [Mem.n_put, hi.xn]; exact hSC o ho) _ p5, (hr'.oks p x p1).2⟩
          · obtain ⟨p, p1, p2, p3, p4, p5, p6⟩ := hob o x hxo
            have h0 := hr'.obj p x p1
            have hl := concL_on hon x.cells p5
            have hc : ∀ (i : Nat) (v : AVal), x.cells[i]? = some v → conc σ'' v = conc σ' v := fun i v hv => conc_on hon v ((okSL_iff _ _).1 p5 v (List.mem_of_getElem? hv))
            unfold RepObj at h0 ⊢
            cases hk : x.kind <;> simp only [hk] at h0 ⊢
            · rw [p2, p3, p4, hl]; exact h0
            · rw [p2, p3, p4]
              obtain ⟨a1, arr, e, fr, a2, a3, a4, a5, a6⟩ := h0
              exact ⟨a1, arr, e, fr, a2, a3, a4, a5, fun i v hv => by rw [hc i v hv]; exact a6 i v hv⟩
            · rw [p2, p3, p4]
              obtain ⟨a1, a2, a3⟩ := h0
              exact ⟨a1, fun i v hv => by rw [hc i v hv]; exact a2 i v hv, a3⟩
            · rw [p2, hl]; exact h0
          · obtain ⟨p, p1, p2, p3, p4, p5, p6⟩ := hob o x hxo
            obtain ⟨p', p1', p2', p3', p4', p5', p6'⟩ := hob o' x' hxo'
            have := hr'.inj p p' x x' l l' p1 p1' hl hl' (by rw [← p2, ← p2']; exact hb)
            rcases p6 with ⟨e1, e2, -⟩ | ⟨e1, e2, e3⟩ <;> rcases p6' with ⟨e1', e2', -⟩ | ⟨e1', e2', e3'⟩ <;> omega
          · obtain ⟨p, p1, p2, p3, p4, p5, p6⟩ := hob o x hxo
            obtain ⟨p', p1', p2', p3', p4', p5', p6'⟩ := hob o' x' hxo'
            have := hr'.injM p p' x x' t t' p1 p1' hl hl' (by rw [← p2, ← p2']; exact hb)
            rcases p6 with ⟨e1, e2, -⟩ | ⟨e1, e2, e3⟩ <;> rcases p6' with ⟨e1', e2', -⟩ | ⟨e1', e2', e3'⟩ <;> omega
        have hcv : conc σ' (mk C) = conc σ'' (mk (mmT T Mn i).n) := conc_mk hmk (by rw [← hq]; exact hσq.1.symm) (by rw [← hq]; exact hσq.2.1.symm) (by rw [← hq]; exact hσq.2.2.symm)
        have hu : ∀ u, okS (Sx flat T Mn listed m) u → okS (Sx flat T Mn (listed.setIfInBounds i true) m) u ∧ conc σ'' u = conc σ u := fun u hu => ⟨okS_mono (fun o ho => (hS' o).2 (.inl ho)) u hu, conc_on hon0 u hu⟩
        have hmkS : okS (Sx flat T Mn (listed.setIfInBounds i true) m) (mk (mmT T Mn i).n) := okS_mk hmk (by rw [← hq]; exact (hS' q).2 (.inr rfl))
        rw [hi.xn] at *
        obtain ⟨r1, r2⟩ := wrW (σ' := σ'') (act' := act.put o.dst (conc σ' (mk C))) (val := conc σ' (mk C)) hd hi ho hunf hall hu rfl (by rw [hcv]; exact hput hmkS)
        refine hK _ w' σ'' m (X.put q ⟨cs, .fixed⟩) ⟨by simp [hi.size], hclosed, hi.mle, fun k k1 k2 => (hset k).2 (.inl (hi.lo k k1 k2)), fun k k1 k2 k3 => ?_, by rw [Mem.n_put, hi.xn], fun o ho => ?_, fun k k1 k2 k3 => ?_, fun o x hxo => ?_, fun o x hxo => ?_, hrX, ?_, hi.nle, ?_, ?_, r1, r2⟩
        · rcases (hset k).1 k3 with k3 | rfl
          · exact hi.wk k k1 k2 k3
          · exact hwi
        · rw [hgX, if_neg (by omega)]; exact hi.x1 o ho
        · rcases (hset k).1 k3 with k3 | rfl
          · rw [hgX, if_neg (hnew k k2 k1 k3)]; exact hi.x2 k k1 k2 k3
          · rw [hgX, if_pos hq.symm, hM1, Mem.get_alloc, if_pos rfl]
        · refine (hS' o).2 ?_
          rw [hgX] at hxo
          by_cases e : o = q
          · exact .inr e
          · rw [if_neg e] at hxo; exact .inl (hi.x3 o x hxo)
        · obtain ⟨p, -, -, -, -, p5, -⟩ := hob o x hxo
          exact okSL_mono (fun o ho => (hS' o).2 (.inl ho)) _ p5
        · intro o ho
          have h1 := hi.nle
          obtain ⟨a1, a2, a3⟩ := hσn o (by omega)
          obtain ⟨b1, b2, b3⟩ := hx o (by omega)
          obtain ⟨c1, c2, c3⟩ := hi.ext o ho
          exact ⟨(a1.trans b1).trans c1, (a2.trans b2).trans c2, (a3.trans b3).trans c3⟩
        · rw [← hi.dfs]; cases o.dst <;> rfl
        · rw [hi.len]; cases o.dst <;> simp [Act.put]
      | false =>
        have hwi : weakAt flat i = false := by simp [weakAt, ha, hW]
        have hord : ∀ k, EffAt flat T k → k ≠ i → ((k < i ∧ listed.getD k false = true) ∨ (i < k ∧ listed.getD k false = false)) := by
          intro k hk hne
          rcases standsW hd hi ho hunf hall (h.ks hk) hne with h1 | h1 | ⟨_, h1, _⟩
          · exact .inl h1
          · exact .inr h1
          · have := (h1 hk.1 heffi).2; rw [hwi] at this; cases this
        have hmeq : m = i := by
          rcases hmax with e | ⟨e1, e2⟩
          · omega
          · by_cases e : m = i
            · exact e
            · rcases hord m e1 e with ⟨_, h2⟩ | ⟨h2, _⟩
              · rw [e2] at h2; cases h2
              · omega
        subst hmeq
        have hearly : ∀ k, m ≤ k → EffAt flat T k → listed.getD k false = true → False := by
          intro k k1 k2 k3
          have hne : k ≠ m := fun e => by subst e; rw [hunf] at k3; cases k3
          rcases hord k k2 hne with ⟨h2, _⟩ | ⟨_, h2⟩
          · omega
          · rw [h2] at k3; cases k3
        have hS0 : ∀ o, Sx flat T Mn listed m o → o < (mmT T Mn m).n := by
          rintro o (h1 | ⟨k, k1, k2, k3, k4⟩)
          · exact h1
          · exact (hearly k k1 k2 k3).elim
        have hgM : ∀ o, (mmT T Mn m).get o = X.get o := by
          intro o
          by_cases e : o < (mmT T Mn m).n
          · exact (hi.x1 o e).symm
          · cases hx : X.get o with
            | none => rw [Mem.get_eq, if_neg e]
            | some x => exact absurd (hS0 o (hi.x3 o x hx)) e
        have hrM : Rep σ B w0 (mmT T Mn m) w := hi.rep.of_get hgM (fun o x hx => okL_okS hS0 _ (hi.xs o x hx))
        refine op_sound hcall hmeth hrM (hfr _ (fun u hu => ok_okS hS0 u hu)) hok ((hcg _).trans he) ?_
        intro σ' w' hr' hx hn hokv
        obtain ⟨X', hX1, hX2⟩ := mem_of (mmT T Mn (m + 1)) C (Nat.le_of_lt (hC (m + 1) (by omega)))
        have hS' : ∀ o, Sx flat T Mn (listed.setIfInBounds m true) (m + 1) o ↔ o < (mmT T Mn (m + 1)).n := by
          intro o
          constructor
          · rintro (h1 | ⟨k, k1, k2, k3, k4⟩)
            · exact h1
            · rcases (hset k).1 k3 with k3 | rfl
              · exact (hearly k (by omega) k2 k3).elim
              · omega
          · exact .inl
        have hu : ∀ u, okS (Sx flat T Mn listed m) u → okS (Sx flat T Mn (listed.setIfInBounds m true) (m + 1)) u ∧ conc σ' u = conc σ u := fun u hu => ⟨okS_mono (fun o ho => (hS' o).2 (by have := hS0 o ho; omega)) u hu, conc_ext hx u (ok_okS hS0 u hu)⟩
        have hvS : okS (Sx flat T Mn (listed.setIfInBounds m true) (m + 1)) v := okS_of (fun o ho => (hS' o).2 ho) v hokv
        obtain ⟨r1, r2⟩ := wrW (σ' := σ') (act' := act.put o.dst (conc σ' v)) (val := conc σ' v) hd hi ho hunf hall hu rfl (hput hvS)
        refine hK _ w' σ' (m + 1) X' ⟨by simp [hi.size], hclosed, by omega, fun k k1 k2 => ?_, fun k k1 k2 k3 => ?_, hX1, fun o ho => hX2 o, fun k k1 k2 k3 => ?_, fun o x hxo => ?_, fun o x hxo => ?_, hr'.of_get hX2 (fun o x hxo => ?_), hi.ext.trans hx hi.nle, Nat.le_trans hi.nle hn, ?_, ?_, r1, r2⟩
        · by_cases e : k = m
          · exact (hset k).2 (.inr e)
          · exact (hset k).2 (.inl (hi.lo k k1 (by omega)))
        · rcases (hset k).1 k3 with k3 | rfl
          · exact (hearly k (by omega) k1 k3).elim
          · omega
        · rcases (hset k).1 k3 with k3 | rfl
          · exact (hearly k (by omega) k1 k3).elim
          · omega
        · rw [hX2] at hxo; exact (hS' o).2 (Mem.get_lt hxo)
        · rw [hX2] at hxo; exact okSL_of (fun o ho => (hS' o).2 ho) _ (hr'.oks o x hxo).1
        · rw [hX1]; exact okL_mono (Nat.le_of_lt (hC (m + 1) (by omega))) _ (hr'.oks o x hxo).1
        · rw [← hi.dfs]; cases o.dst <;> rfl
        · rw [hi.len]; cases o.dst <;> simp [Act.put]
  ·
    have hw : Region.wanted o (yielded ops act.tmps) = false := by
      simp only [Region.wanted, hg]
      rcases hno with ⟨t, x, hdj, hv, hne⟩ | ⟨R, hR, hst⟩
      · obtain ⟨-, hval⟩ := seesW h hd hi ho hunf hall (hrdT j wv t hg hdj) hv
        have hb : act.tmps[t]? = some (.bool x) := by
          rw [Array.getD_eq_getD_getElem?] at hval
          cases hx : act.tmps[t]? with
          | none => rw [hx] at hval; simp [undef, conc] at hval
          | some y => rw [hx] at hval; simpa [conc] using hval
        rw [yielded_eq]
        have : (ops[j]?).bind (·.dst) = some t := hdj
        rw [this]
        simp [hb, boolOf, hne]
      · obtain ⟨hjd, huniq⟩ := hd.guard i o j wv ho hg
        have hjl := hall j hjd
        have hj : yielded ops act.tmps j = none := by
          rw [yielded_eq]
          cases hdj : dstOf ops j with
          | none => have : (ops[j]?).bind (·.dst) = none := hdj; rw [this]; rfl
          | some t =>
            have : (ops[j]?).bind (·.dst) = some t := hdj
            rw [this]
            simp only [Option.bind_some]
            refine (hi.wr t j hjl hdj (fun k hk hdk => ?_)).2 ⟨R, hR, hst⟩
            rcases huniq k (dst_lt hdk) with e | e
            · omega
            · exact absurd (by rw [hdk, hdj]) e
        rw [hj]; rfl
    simp only [hw, Bool.false_eq_true, if_false]
    have hne : ¬ EffAt flat T i := by
      rintro ⟨_, R, u, hR, hu⟩
      rw [hT] at hR
      obtain rfl := Option.some.inj hR
      cases hu
    refine hkeep hne (val := undef) hi.rep (Env.ext_refl _ _) rfl (fun t ht => ?_)
    refine ⟨fun x hxv => ?_, fun _ => ?_⟩
    · rw [hfm, ht] at hxv
      simp only [Fr.killO] at hxv
      rw [Fr.g_s] at hxv
      by_cases hlt : t < List.length (fmT T frn i)
      · rw [if_pos ⟨rfl, hlt⟩] at hxv; cases hxv
      · rw [if_neg (fun e => hlt e.2), Fr.g_eq, List.getElem?_eq_none (Nat.le_of_not_lt hlt)] at hxv
        cases hxv
    · rw [ht]; exact boolOf_undef act.tmps t
end
end Go.Abs
set_option linter.unusedVariables false
set_option linter.unusedSimpArgs false
namespace Go.Abs
open Go.RowKit
section
variable {P : Program} {ops : Array Oper} {fc : Bool} {call : CallF} {meth : MethF} {flat : List AOp} {T : List TRec} {fr0 frn : Fr} {M0 Mn : Mem} {ps : List (Nat × Nat)}
variable {B : Nat → Prop} {w0 w : World} {σ0 σ σ' : Env} {df : List Deferred} {listed : Array Bool} {act : Act} {m C : Nat} {X : Mem} {Q : Exit → Act → World → Prop}
theorem bound_of (f : Nat → Nat) : ∀ n, ∃ C, ∀ k, k ≤ n → f k < C
  | 0 => ⟨f 0 + 1, fun k hk => by
    have : k = 0 := by omega
    subst this; exact Nat.lt_succ_self _⟩
  | n + 1 => by
    obtain ⟨C, hC⟩ := bound_of f n
    refine ⟨max C (f (n + 1) + 1), fun k hk => ?_⟩
    by_cases e : k = n + 1
    · subst e; omega
    · have := hC k (by omega); omega
theorem drwW_any (hcall : CallOk P call) (hmeth : MethOk P meth) (h : TF P ops fc call meth flat T fr0 frn M0 Mn) (hd : DOkW ops flat ps) (hps : chkPairs T Mn ps = true) (hC : ∀ k, k ≤ ops.size → (mmT T Mn k).n < C)
    (hfin : ∀ σ' w' act', Rep σ' B w0 Mn w' → FrR σ' Mn.n frn act'.tmps → act'.defers = df → Env.ext M0.n σ0 σ' → M0.n ≤ Mn.n → Q .normal act' w') :
    ∀ (fuel : Nat) (listed : Array Bool) (act : Act) (w : World) (σ : Env) (m : Nat) (X : Mem), InvW P ops flat T fr0 frn M0 Mn B w0 σ0 df C listed act w σ m X →
      (((List.range ops.size).filter fun k => !listed.getD k false).length = fuel) → wpAny P .any ops Q fuel listed act w := by
  have hdone : ∀ (listed : Array Bool) (act : Act) (w : World) (σ : Env) (m : Nat) (X : Mem), InvW P ops flat T fr0 frn M0 Mn B w0 σ0 df C listed act w σ m X → (∀ k, k < ops.size → listed.getD k false = true) → Q .normal act w := by
    intro listed act w σ m X hi hall
    obtain ⟨m, hi, hmax⟩ := hi.far h _ rfl
    have hm : m = ops.size := by
      rcases hmax with e | ⟨e1, e2⟩
      · exact e
      · rw [hall m (h.ks e1)] at e2; cases e2
    subst hm
    have hMn : mmT T Mn ops.size = Mn := by simp [mmT, ← h.len]
    have hfn : fmT T frn ops.size = frn := by simp [fmT, ← h.len]
    have hS : ∀ o, Sx flat T Mn listed ops.size o → o < Mn.n := by
      rintro o (h1 | ⟨k, k1, k2, k3, k4⟩)
      · rw [hMn] at h1; exact h1
      · have := h.ks k2; omega
    have hg : ∀ o, Mn.get o = X.get o := by
      intro o
      by_cases e : o < Mn.n
      · have := hi.x1 o (by rw [hMn]; exact e)
        rw [hMn] at this; exact this.symm
      · cases hx : X.get o with
        | none => rw [Mem.get_eq, if_neg e]
        | some x => exact absurd (hS o (hi.x3 o x hx)) e
    have hn := hi.nle
    rw [hMn] at hn
    refine hfin σ w act (hi.rep.of_get hg (fun o x hx => okL_okS hS _ (hi.xs o x hx))) ⟨?_, fun t v hv => ?_⟩ hi.dfs hi.ext hn
    · rw [← hi.len]
      have := fm_len h ops.size (Nat.le_refl _)
      rw [hfn] at this
      exact this
    · have := hi.look h (i := ops.size) (Nat.le_refl _) (t := t) (fun k hk _ => hall k hk) (fun k hk hl hdk => by
        have := dst_lt hdk; omega) (v := v) (by rw [hfn]; exact hv)
      exact ⟨ok_okS hS v this.1, this.2⟩
  have hready : ∀ (listed : Array Bool), listed.size = ops.size → Region.ready .any ops listed = [] → ∀ k, k < ops.size → listed.getD k false = true := by
    intro listed hsz hnil k
    induction k using Nat.strongRecOn with
    | _ k ih =>
      intro hk
      cases hl : listed.getD k false with
      | true => rfl
      | false =>
        have hok : ops[k]? = some ops[k] := by simp [hk]
        have : k ∈ Region.ready .any ops listed := by
          refine mem_ready.2 ⟨?_, ops[k], hok, fun e he hb => ?_⟩
          · have : k < listed.size := by omega
            simp [this] at hl ⊢; exact hl
          · have := hd.edge k _ hok e.on (mem_direct.2 ⟨e, he, hb, rfl⟩)
            exact ih e.on this (by omega)
        rw [hnil] at this
        cases this
  intro fuel
  induction fuel with
  | zero =>
    intro listed act w σ m X hi hlen
    have hall : ∀ k, k < ops.size → listed.getD k false = true := by
      intro k hk
      cases hl : listed.getD k false with
      | true => rfl
      | false =>
        have : k ∈ (List.range ops.size).filter fun k => !listed.getD k false := by simp [hk]; simpa using hl
        rw [List.length_eq_zero_iff.1 hlen] at this
        cases this
    refine ⟨?_, hdone listed act w σ m X hi hall⟩
    cases hr : Region.ready .any ops listed with
    | nil => rfl
    | cons x xs =>
      have : x ∈ Region.ready .any ops listed := by rw [hr]; simp
      obtain ⟨h1, o, ho, _⟩ := mem_ready.1 this
      have := hall x (Array.getElem?_eq_some_iff.1 ho).1
      rw [getD_tf h1] at this
      cases this
  | succ fuel ih =>
    intro listed act w σ m X hi hlen
    refine ⟨fun hnil => hdone listed act w σ m X hi (hready listed hi.size hnil), fun i hir => ?_⟩
    refine stepW hcall hmeth h hd hps hC hi hir ?_
    intro act' w' σ' m' X' hi'
    refine ih _ act' w' σ' m' X' hi' ?_
    obtain ⟨h1, o, ho, _⟩ := mem_ready.1 hir
    have hio : i < ops.size := (Array.getElem?_eq_some_iff.1 ho).1
    have hsz : i < listed.size := by rw [hi.size]; exact hio
    have hif := getD_tf h1
    have hfil : ((List.range ops.size).filter fun k => !(listed.setIfInBounds i true).getD k false) = ((List.range ops.size).filter fun k => !listed.getD k false).erase i := by
      rw [List.Nodup.erase_eq_filter (List.Pairwise.filter _ List.nodup_range), List.filter_filter]
      refine List.filter_congr fun k _ => ?_
      have := getD_set listed i k
      cases h2 : (listed.setIfInBounds i true).getD k false <;> cases h3 : listed.getD k false <;> by_cases e : k = i <;> simp_all
    rw [hfil, List.length_erase_of_mem (by simp [hio]; simpa using hif), hlen]
    rfl
theorem drwW_sound (hmix : P.follows .mixedOrders = true) (hcall : CallOk P call) (hmeth : MethOk P meth) {id : Nat} {g : DL} {fr : Fr} {M : Mem} {act : Act} {w : World} {K : Fr → Mem → List TRec → Option (AVal × Mem)} {r : AVal × Mem}
    (hok : okGL P ops g.toGL 0 [] 0 = some ops.size) (hdr : drwOkW ops g.flat ps = true) (he : evalDL fc call meth g fr M [] (fun fr M acc => cond (chkPairs acc.reverse M ps) (K fr M acc) none) = some r)
    (hr : Rep σ B w0 M w) (hf : FrR σ M.n fr act.tmps)
    (hfin : ∀ σ' M' w' fr' act' acc, K fr' M' acc = some r → Rep σ' B w0 M' w' → FrR σ' M'.n fr' act'.tmps → act'.defers = act.defers → Env.ext M.n σ σ' → M.n ≤ M'.n → Q .normal act' w') :
    (Code.region id ops true).wp P Q act w := by
  obtain ⟨T, sk', fr', M', h1, h2, h3, h4⟩ := dl_run (sk := []) g hok he (fun x hx => by simp at hx)
  simp only [List.append_nil, List.reverse_reverse, cond_none] at h2
  have hTF := TF.of_run h1 h4
  have hd := DOkW.of hdr
  refine wp_region_any hmix ?_
  have hr' : Rep σ B w0 M { w with drawn := w.drawn + 1 } := hr.drew rfl rfl rfl rfl
  have hs0 : ∀ k, (Array.replicate ops.size false).getD k false = false := fun k => by
    by_cases h : k < ops.size <;> simp [h]
  obtain ⟨C, hC⟩ := bound_of (fun k => (mmT T M' k).n) ops.size
  have hC0 : M.n < C := by have := hC 0 (Nat.zero_le _); rw [hTF.m0] at this; exact this
  obtain ⟨X, hX1, hX2⟩ := mem_of M C (Nat.le_of_lt hC0)
  have hS : ∀ o, Sx g.flat T M' (Array.replicate ops.size false) 0 o ↔ o < M.n := by
    intro o
    unfold Sx
    rw [hTF.m0]
    constructor
    · rintro (h1 | ⟨k, k1, k2, k3, k4⟩)
      · exact h1
      · rw [hs0] at k3; cases k3
    · exact .inl
  refine drwW_any (df := act.defers) (σ0 := σ) (B := B) (w0 := w0) hcall hmeth hTF hd h2.1 hC (fun σ' w' act' q1 q2 q3 q4 q5 => hfin σ' M' w' fr' act' _ h2.2 q1 q2 q3 q4 q5) ops.size _ act _ σ 0 X ?_ ?_
  · refine ⟨by simp, (fun j o ho hl => by rw [hs0] at hl; cases hl), Nat.zero_le _, (fun k _ hk => by omega), (fun k _ _ hl => by rw [hs0] at hl; cases hl), hX1, (fun o ho => by rw [hTF.m0]; exact hX2 o), (fun k _ _ hl => by rw [hs0] at hl; cases hl),
      (fun o x hx => by rw [hX2] at hx; exact (hS o).2 (Mem.get_lt hx)), (fun o x hx => by rw [hX2] at hx; exact okSL_of (fun o ho => (hS o).2 ho) _ (hr'.oks o x hx).1),
      hr'.of_get hX2 (fun o x hx => by rw [hX1]; exact okL_mono (Nat.le_of_lt hC0) _ (hr'.oks o x hx).1), Env.ext_refl _ _, (by rw [hTF.m0]; exact Nat.le_refl _), rfl, hf.len, (fun t i hl => by rw [hs0] at hl; cases hl), fun t _ v hv => ?_⟩
    obtain ⟨a1, a2⟩ := hf.val t v hv
    exact ⟨okS_of (fun o ho => (hS o).2 ho) v a1, a2⟩
  · rw [List.filter_eq_self.2 (fun k _ => by rw [hs0]; rfl)]
    simp
theorem drwE_sound (hmix : P.follows .mixedOrders = true) (hcall : CallOk P call) (hmeth : MethOk P meth) {id : Nat} {g : DL} {fr : Fr} {M : Mem} {act : Act} {w : World} {K : Fr → Mem → List TRec → Option (AVal × Mem)} {r : AVal × Mem}
    (hok : okGL P ops g.toGL 0 [] 0 = some ops.size) (hdr : (drwOk ops g.flat ps || drwOkW ops g.flat ps) = true) (he : evalDL fc call meth g fr M [] (fun fr M acc => cond (chkPairs acc.reverse M ps) (K fr M acc) none) = some r)
    (hr : Rep σ B w0 M w) (hf : FrR σ M.n fr act.tmps)
    (hfin : ∀ σ' M' w' fr' act' acc, K fr' M' acc = some r → Rep σ' B w0 M' w' → FrR σ' M'.n fr' act'.tmps → act'.defers = act.defers → Env.ext M.n σ σ' → M.n ≤ M'.n → Q .normal act' w') :
    (Code.region id ops true).wp P Q act w := by
  rw [Bool.or_eq_true] at hdr
  rcases hdr with hd | hd
  · exact drw_sound hmix hcall hmeth hok hd he hr hf hfin
  · exact drwW_sound hmix hcall hmeth hok hd he hr hf hfin
end
end Go.Abs
