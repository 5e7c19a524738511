import Derived.Test.YtjcakemgghfflaaXPt
set_option linter.unusedVariables false
set_option linter.unusedSimpArgs false
namespace Go.Abs
open Go.RowKit
mutual
def ren (ρ : Nat → Nat) : AVal → AVal
  | .bool b => .bool b
  | .int k n => .int k n
  | .str s => .str s
  | .ptr a => .ptr (a.map fun p => (ρ p.1, p.2))
  | .sl a n c => .sl (a.map fun p => (ρ p.1, p.2)) n c
  | .map r => .map (r.map ρ)
  | .fn f a b => match f with
    | none => .fn none a b
    | some f => .fn (some f) (renL ρ a) (renL ρ b)
  | .ifc t v => match t with
    | none => .ifc none v
    | some t => .ifc (some t) (ren ρ v)
  | .agg l => .agg (renL ρ l)
  | .tup l => .tup (renL ρ l)
def renL (ρ : Nat → Nat) : List AVal → List AVal
  | [] => []
  | v :: l => ren ρ v :: renL ρ l
end
theorem renL_eq (ρ : Nat → Nat) : ∀ l, renL ρ l = l.map (ren ρ)
  | [] => rfl
  | v :: l => by simp [renL, renL_eq ρ l]
def Env.pull (σ : Env) (ρ : Nat → Nat) : Env := ⟨fun o => σ.blk (ρ o), fun o => σ.off (ρ o), fun o => σ.cap (ρ o)⟩
mutual
theorem conc_ren (σ : Env) (ρ : Nat → Nat) : ∀ v, conc σ (ren ρ v) = conc (σ.pull ρ) v
  | .bool _ | .int _ _ | .str _ => by simp [conc, ren]
  | .ptr a => by cases a <;> simp [conc, ren, cAddr, Env.pull]
  | .sl a n c => by
    simp only [conc, ren]
    cases a <;> cases c <;> first | rfl | simp [slA, capOf, cAddr, Env.pull]
  | .map r => by cases r <;> simp [conc, ren, Env.pull]
  | .fn f a b => by cases f with
    | none => simp only [conc, ren]
    | some f => simp only [conc, ren, concL_ren σ ρ a, concL_ren σ ρ b]
  | .ifc t v => by cases t with
    | none => simp only [conc, ren]
    | some t => simp only [conc, ren, conc_ren σ ρ v]
  | .agg l => by simp only [conc, ren, concL_ren σ ρ l]
  | .tup l => by simp only [conc, ren, concL_ren σ ρ l]
theorem concL_ren (σ : Env) (ρ : Nat → Nat) : ∀ l, concL σ (renL ρ l) = concL (σ.pull ρ) l
  | [] => rfl
  | v :: l => by simp only [concL, renL, conc_ren σ ρ v, concL_ren σ ρ l]
end
mutual
theorem ren_id {ρ : Nat → Nat} {n : Nat} (h : ∀ o, o < n → ρ o = o) : ∀ v, ok n v → ren ρ v = v
  | .bool _, _ | .int _ _, _ | .str _, _ => by simp [ren]
  | .ptr a, hv => by cases a with
    | none => rfl
    | some p => simp only [ok, lt1] at hv; simp [ren, h _ hv]
  | .sl a n c, hv => by cases a with
    | none => rfl
    | some p => simp only [ok, lt1] at hv; simp [ren, h _ hv]
  | .map r, hv => by cases r with
    | none => rfl
    | some r => simp only [ok] at hv; simp [ren, h _ hv]
  | .fn f a b, hv => by
    cases f with
    | none => simp only [ren]
    | some f => simp only [ok] at hv; simp only [ren, renL_id h a hv.1, renL_id h b hv.2]
  | .ifc t v, hv => by
    cases t with
    | none => simp only [ren]
    | some t => simp only [ok] at hv; simp only [ren, ren_id h v hv]
  | .agg l, hv => by simp only [ok] at hv; simp only [ren, renL_id h l hv.1]
  | .tup l, hv => by simp only [ok] at hv; simp only [ren, renL_id h l hv]
theorem renL_id {ρ : Nat → Nat} {n : Nat} (h : ∀ o, o < n → ρ o = o) : ∀ l, okL n l → renL ρ l = l
  | [], _ => rfl
  | v :: l, hv => by simp only [okL] at hv; simp only [renL, ren_id h v hv.1, renL_id h l hv.2]
end
structure Fits (ρ : Nat → Nat) (M : Mem) (r r' : AVal × Mem) : Prop where
  old : ∀ o, o < M.n → ρ o = o
  le : M.n ≤ r.2.n
  inj : ∀ o o', o < r.2.n → o' < r.2.n → ρ o = ρ o' → o = o'
  obj : ∀ o x, r.2.get o = some x → x.kind ≠ .dead → r'.2.get (ρ o) = some ⟨renL ρ x.cells, x.kind⟩
  oks : ∀ o x, r.2.get o = some x → okL r.2.n x.cells ∧ x.cells.all AVal.flat = true
  val : r'.1 = ren ρ r.1
  okv : ok r.2.n r.1
section
variable {P : Program} {σ σ' : Env} {B : Nat → Prop} {w0 w w' : World} {M : Mem}
theorem Rep.fits {ρ : Nat → Nat} {r r' : AVal × Mem} (h : Fits ρ M r r') (hr : Rep σ' B w0 r'.2 w') (hσ : Env.ext M.n σ σ') :
    Rep (σ'.pull ρ) B w0 r.2 w' ∧ conc (σ'.pull ρ) r.1 = conc σ' r'.1 ∧ Env.ext M.n σ (σ'.pull ρ) := by
  refine ⟨⟨h.oks, fun o x hx => ?_, fun o o' x x' l l' hx hx' hm hm' hb => ?_, hr.below, hr.size, fun o o' x x' t t' hx hx' hm hm' hb => ?_⟩, by rw [h.val, conc_ren], fun o ho => ?_⟩
  · by_cases hd : x.kind = .dead
    · unfold RepObj; rw [hd]; trivial
    · have hobj := hr.obj _ _ (h.obj o x hx hd)
      unfold RepObj at hobj ⊢
      cases hk : x.kind with
      | dead => trivial
      | map t =>
        simp only [hk] at hobj
        obtain ⟨a, es, cl, b, c, d⟩ := hobj
        rw [concL_ren] at c
        exact ⟨a, es, cl, b, c, d⟩
      | ro s =>
        simp only [hk] at hobj
        obtain ⟨a, b, c⟩ := hobj
        refine ⟨a, fun i v hv => ?_, by simpa [renL_eq, Env.pull] using c⟩
        have := b i (ren ρ v) (by simp [renL_eq, hv])
        rw [conc_ren] at this
        exact this
      | fixed =>
        simp only [hk] at hobj
        obtain ⟨a, b, b', e, c⟩ := hobj
        rw [concL_ren] at c
        exact ⟨a, b, by simpa [renL_eq, Env.pull] using b', e, c⟩
      | grow s =>
        simp only [hk] at hobj
        obtain ⟨a, arr, e, fr, hh, hfr, hsz, hle, hcell⟩ := hobj
        refine ⟨a, arr, e, fr, hh, hfr, hsz, by simpa [renL_eq, Env.pull] using hle, fun i v hv => ?_⟩
        have := hcell i (ren ρ v) (by simp [renL_eq, hv])
        rw [conc_ren] at this
        exact this
  · have mine : ∀ {o : Nat} {x : AObj} {l : List AVal}, r.2.get o = some x → x.mine = some l → ∃ x' l', r'.2.get (ρ o) = some x' ∧ x'.mine = some l' := by
      intro o x l hx hm
      have hk := (AObj.mine_eq hm).2
      refine ⟨_, renL ρ x.cells, h.obj o x hx (by rcases hk with hk | ⟨s, hk⟩ <;> rw [hk] <;> simp), ?_⟩
      rcases hk with hk | ⟨s, hk⟩ <;> simp [AObj.mine, hk]
    obtain ⟨y, m, hy, hmy⟩ := mine hx hm
    obtain ⟨y', m', hy', hmy'⟩ := mine hx' hm'
    exact h.inj o o' (Mem.get_lt hx) (Mem.get_lt hx') (hr.inj _ _ _ _ _ _ hy hy' hmy hmy' hb)
  · exact h.inj o o' (Mem.get_lt hx) (Mem.get_lt hx') (hr.injM _ _ _ _ _ _ (h.obj o x hx (by rw [hm]; simp)) (h.obj o' x' hx' (by rw [hm']; simp)) hm hm' hb)
  · obtain ⟨h1, h2, h3⟩ := hσ o ho
    simp only [Env.pull, h.old o ho]
    exact ⟨h1, h2, h3⟩
def Mem.Whole (M : Mem) : Prop := ∀ o x, M.get o = some x → okL M.n x.cells ∧ x.cells.all AVal.flat = true
abbrev Spec := List AVal → Mem → Option (AVal × Mem)
def CallF.also (S : CallF) (f : FuncId) (s : Spec) : CallF := fun g vs M => cond (Nat.beq g f) (s vs M) (S g vs M)
def CallF.empty : CallF := fun _ _ _ => none
theorem CallOk.empty (P : Program) : CallOk P CallF.empty := fun _ _ _ _ _ _ _ _ _ _ h => by cases h
def Keeps (fc : Bool) (S : CallF) (meth : MethF) (F : AFunc) (s : Spec) : Prop := ∀ vs M r, M.Whole → okL M.n vs → s vs M = some r →
  ∃ r' ρ, run fc S meth F.results [.code F.body] (frame0 F vs) M = some r' ∧ Fits ρ M r r'
theorem CallOk.also {fc : Bool} {S : CallF} {meth : MethF} {f : FuncId} {F : AFunc} {s : Spec} (hmix : P.follows .mixedOrders = true) (hmeth : MethOk P meth) (hS : CallOk P S) (hk : okFn P f F = true)
    (h : Keeps fc S meth F s) : CallOk P (S.also f s) := by
  intro σ B w0 M w g vs r hr hvs hc
  unfold CallF.also at hc
  cases hb : Nat.beq g f with
  | false => rw [hb, cond_false] at hc; exact hS σ B w0 M w g vs r hr hvs hc
  | true =>
    rw [hb, cond_true] at hc
    obtain rfl := Nat.eq_of_beq_eq_true hb
    obtain ⟨r', ρ, hrun, hfit⟩ := h vs M r hr.oks hvs hc
    obtain ⟨h1, h2⟩ := RunOk1.call hk (run_ok (fc := fc) hmix hmeth hS) hr hvs hrun
    refine ⟨h1, h2.mono ?_⟩
    rintro e w' ⟨σ', he, -, hr', hσ, -⟩
    obtain ⟨k1, k2, k3⟩ := Rep.fits hfit hr' hσ
    exact ⟨σ'.pull ρ, by rw [he, k2], hfit.okv, k1, k3, hfit.le⟩
theorem CallOk.closed {S : CallF} {f : FuncId} {v : AVal} (hS : CallOk P S) (hok : ok 0 v) (h : ∃ M', S f [] Mem.empty = some (v, M')) : CallOk P (S.also f fun vs M => match vs with | [] => some (v, M) | _ => none) := by
  intro σ B w0 M w g vs r hr hvs hc
  unfold CallF.also at hc
  cases hb : Nat.beq g f with
  | false => rw [hb, cond_false] at hc; exact hS σ B w0 M w g vs r hr hvs hc
  | true =>
    rw [hb, cond_true] at hc
    obtain rfl := Nat.eq_of_beq_eq_true hb
    cases vs with
    | cons _ _ => cases hc
    | nil =>
      obtain rfl := Option.some.inj hc
      obtain ⟨M', h⟩ := h
      obtain ⟨h1, h2⟩ := hS _ _ _ _ _ _ _ _ (Rep.start w) (by simp [okL]) h
      refine ⟨h1, h2.mono ?_⟩
      rintro e w' ⟨σ', he, -, hr', -, -⟩
      have hbel : Keep (· < w.heap.size) w w' := hr'.below
      refine ⟨σ, ?_, ok_mono (Nat.zero_le _) v hok, ?_, Env.ext_refl _ _, Nat.le_refl _⟩
      · rw [he, conc_ext (n := 0) (σ := σ') (σ' := σ) (fun o ho => by omega) v hok]
      · exact hr.kept hbel
end
abbrev Ad := Option (Nat × Nat)
abbrev Rs := Option (AVal × Mem)
def nn : Nat → Fr → Fr
  | 0, l => l
  | n + 1, l => none :: nn n l
def rg (a : Nat) : Nat → List Nat → List Nat
  | 0, l => l
  | n + 1, l => (a + n) :: rg a n l
def GL.o (d : Tmp) (x : AOp) (r : GL) : GL := .op (some d) x r
def DL.o (d : Tmp) (x : AOp) (r : DL) : DL := .op (some d) x r
end Go.Abs
