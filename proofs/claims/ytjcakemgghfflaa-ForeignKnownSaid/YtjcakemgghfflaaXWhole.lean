import Derived.Test.YtjcakemgghfflaaXLib
set_option linter.unusedVariables false
set_option linter.unusedSimpArgs false
namespace Go.Abs
open Go.RowKit
section
variable (A : AP) (D : CallF)
def callX (run : List ARes → RunF) : CallF := fun f vs M => match A.fn? f with
  | some F => run F.results [.code F.body] (frame0 F vs) M
  | none => D f vs M
def runX : Nat → List ARes → RunF
  | 0, _ => fun _ _ _ => none
  | n + 1, rs => stepF false (callX A D (runX n)) A.meth (runX n rs) rs
def callXN (n : Nat) : CallF := callX A D (runX A D n)
end
def CallF.le (c d : CallF) : Prop := ∀ f vs M r, c f vs M = some r → d f vs M = some r
def Grows {β : Type} (f : CallF → Option β) : Prop := ∀ c d r, CallF.le c d → f c = some r → f d = some r
theorem Grows.const {β : Type} (x : Option β) : Grows fun _ => x := fun _ _ _ _ h => h
theorem Grows.bind {α β : Type} {f : CallF → Option α} {g : α → CallF → Option β} (hf : Grows f) (hg : ∀ a, Grows (g a)) : Grows fun c => (f c).bind fun a => g a c := fun c d r h hr => by
  obtain ⟨a, h1, h2⟩ := bind_some'.1 hr
  exact bind_some'.2 ⟨a, hf c d a h h1, hg a c d r h h2⟩
theorem Grows.cond {β : Type} {b : Bool} {f g : CallF → Option β} (hf : Grows f) (hg : Grows g) : Grows fun c => cond b (f c) (g c) := by cases b; exact hg; exact hf
theorem Grows.call {f : FuncId} {vs : List AVal} {M : Mem} : Grows fun c => c f vs M := fun c d r h hr => h _ _ _ _ hr
def Lims {β : Type} (c : Nat → CallF) (l : CallF) (f : CallF → Option β) : Prop := ∀ r, f l = some r → ∃ n, ∀ m, n ≤ m → f (c m) = some r
section
variable {c : Nat → CallF} {l : CallF}
theorem Lims.const {β : Type} (x : Option β) : Lims c l fun _ => x := fun _ h => ⟨0, fun _ _ => h⟩
theorem Lims.bind {α β : Type} {f : CallF → Option α} {g : α → CallF → Option β} (hf : Lims c l f) (hg : ∀ a, Lims c l (g a)) : Lims c l fun c => (f c).bind fun a => g a c := fun r hr => by
  obtain ⟨a, h1, h2⟩ := bind_some'.1 hr
  obtain ⟨n, hn⟩ := hf a h1
  obtain ⟨m, hm⟩ := hg a r h2
  exact ⟨max n m, fun k hk => bind_some'.2 ⟨a, hn k (by omega), hm k (by omega)⟩⟩
theorem Lims.cond {β : Type} {b : Bool} {f g : CallF → Option β} (hf : Lims c l f) (hg : Lims c l g) : Lims c l fun c => cond b (f c) (g c) := by cases b; exact hg; exact hf
end
inductive Asks : {β : Type} → (CallF → Option β) → Prop
  | const {β : Type} (x : Option β) : Asks fun _ => x
  | call {f : FuncId} {vs : List AVal} {M : Mem} : Asks fun c => c f vs M
  | bind {α β : Type} {f : CallF → Option α} {g : α → CallF → Option β} : Asks f → (∀ a, Asks (g a)) → Asks fun c => (f c).bind fun a => g a c
  | cond {β : Type} {b : Bool} {f g : CallF → Option β} : Asks f → Asks g → Asks fun c => cond b (f c) (g c)
theorem Asks.grows {β : Type} {f : CallF → Option β} (h : Asks f) : Grows f := by
  induction h with
  | const x => exact Grows.const x
  | call => exact Grows.call
  | bind _ _ h1 h2 => exact Grows.bind h1 h2
  | cond _ _ h1 h2 => exact Grows.cond h1 h2
theorem Asks.lims {c : Nat → CallF} {l : CallF} (hc : ∀ f vs M, Lims c l fun c => c f vs M) {β : Type} {f : CallF → Option β} (h : Asks f) : Lims c l f := by
  induction h with
  | const x => exact Lims.const x
  | call => exact hc _ _ _
  | bind _ _ h1 h2 => exact Lims.bind h1 h2
  | cond _ _ h1 h2 => exact Lims.cond h1 h2
theorem asks_evalOp0 (meth : MethF) (o : AOp) (fr : Fr) (M : Mem) : Asks fun c => evalOp false c meth o fr M fun v M => some (v, M) := by
  cases o with
  | call f args t =>
    simp only [evalOp, evs_eq]
    exact .bind (.const _) fun vs => .bind .call fun r => .const _
  | callP f args t =>
    simp only [evalOp, evs_eq]
    exact .bind (.const _) fun vs => .cond (.bind .call fun r => .const _) (.const _)
  | callR f x t =>
    simp only [evalOp, ev_eq]
    refine .bind (.const _) fun v => ?_
    unfold readK
    split
    · exact .bind (.const _) fun x => .cond (.bind .call fun r => .cond (.const _) (.const _)) (.const _)
    · exact .const _
  | callV x args t =>
    simp only [evalOp, evs_eq, ev_eq]
    exact .bind (.const _) fun x => .bind (.const _) fun vs => .bind (.const _) fun p => .bind (.const _) fun f => .bind .call fun r => .const _
  | callM x name args t =>
    simp only [evalOp, evs_eq, ev_eq]
    exact .bind (.const _) fun x => .bind (.const _) fun vs => .bind (.const _) fun p => .bind (.const _) fun f => .bind (.const _) fun f => .bind .call fun r => .const _
  | _ => exact .const _
theorem asks_evalOp {β : Type} (meth : MethF) (o : AOp) (fr : Fr) (M : Mem) {K : AVal → Mem → CallF → Option β} (hK : ∀ v M, Asks (K v M)) : Asks fun c => evalOp false c meth o fr M fun v M => K v M c := by
  have : (fun c => evalOp false c meth o fr M fun v M => K v M c) = fun c => (evalOp false c meth o fr M fun v M => some (v, M)).bind fun p => K p.1 p.2 c := by
    funext c
    rw [evalOp_bind]; rfl
  rw [this]
  exact .bind (asks_evalOp0 meth o fr M) fun p => hK _ _
theorem asks_evalGL {β : Type} (meth : MethF) : ∀ (g : GL) (fr : Fr) (M : Mem) {K : Fr → Mem → CallF → Option β}, (∀ fr M, Asks (K fr M)) → Asks fun c => evalGL false c meth g fr M fun fr M => K fr M c
  | .nil, fr, M, K, hK => hK fr M
  | .op d o r, fr, M, K, hK => by
    simp only [evalGL, fM_eq]
    exact asks_evalOp (K := fun v M c => evalGL false c meth r (fr.put d v) M fun fr M => K fr M c) meth o fr M fun v M => asks_evalGL meth r _ _ hK
  | .grp t w b r, fr, M, K, hK => by
    simp only [evalGL]
    have h1 : ∀ fr M, Asks fun c => evalGL false c meth b fr M fun fr M => evalGL false c meth r fr M fun fr M => K fr M c := fun fr M =>
      asks_evalGL (K := fun fr M c => evalGL false c meth r fr M fun fr M => K fr M c) meth b fr M fun fr M => asks_evalGL meth r fr M hK
    exact .bind (.const _) fun v => .bind (.const _) fun t => .cond (.cond (h1 _ _) (asks_evalGL meth r _ _ hK)) (.cond (asks_evalGL meth r _ _ hK) (h1 _ _))
theorem asks_evalDL {β : Type} (meth : MethF) : ∀ (g : DL) (fr : Fr) (M : Mem) (acc : List TRec) {K : Fr → Mem → List TRec → CallF → Option β}, (∀ fr M acc, Asks (K fr M acc)) → Asks fun c => evalDL false c meth g fr M acc fun fr M acc => K fr M acc c
  | .nil, fr, M, acc, K, hK => hK fr M acc
  | .op d o r, fr, M, acc, K, hK => by
    simp only [evalDL, fM_eq]
    exact asks_evalOp (K := fun v M' c => evalDL false c meth r (fr.put d v) M' (⟨fr, M, o, some v⟩ :: acc) fun fr M acc => K fr M acc c) meth o fr M fun v M' => asks_evalDL meth r _ _ _ hK
  | .grp t w b r, fr, M, acc, K, hK => by
    simp only [evalDL]
    have h1 : ∀ fr M acc, Asks fun c => evalDL false c meth b fr M acc fun fr M acc => evalDL false c meth r fr M acc fun fr M acc => K fr M acc c := fun fr M acc =>
      asks_evalDL (K := fun fr M acc c => evalDL false c meth r fr M acc fun fr M acc => K fr M acc c) meth b fr M acc fun fr M acc => asks_evalDL meth r fr M acc hK
    exact .bind (.const _) fun v => .bind (.const _) fun t => .cond (.cond (h1 _ _ _) (asks_evalDL meth r _ _ _ hK)) (.cond (asks_evalDL meth r _ _ _ hK) (h1 _ _ _))
theorem asks_nxt (meth : MethF) (rs : List ARes) (k : List AItem) (fr : Fr) (M : Mem) : Asks fun c => nxt false c meth rs k fr M := by
  unfold nxt
  cases k with
  | nil => exact .const _
  | cons i k =>
    cases i with
    | inBlock _ => exact .const _
    | inLoop _ => exact .const _
    | code a =>
      cases a with
      | reg g kill => exact asks_evalGL (K := fun fr M c => some (Nx.go k (fr.kill kill) M)) meth g fr M fun fr M => .const _
      | drw d ps kill => exact asks_evalDL (K := fun fr M' acc c => cond (chkPairs acc.reverse M' ps) (some (Nx.go k (fr.kill kill) M')) none) meth d fr M [] fun fr M acc => .const _
      | _ => exact .const _
section
variable (A : AP) (D : CallF)
theorem runX_succ (n : Nat) (rs : List ARes) (k : List AItem) (fr : Fr) (M : Mem) : runX A D (n + 1) rs k fr M = (nxt false (callXN A D n) A.meth rs k fr M).bind (Nx.on (runX A D n rs) some) := by
  show stepF false (callX A D (runX A D n)) A.meth (runX A D n rs) rs k fr M = _
  rw [stepF_eq, stepG_nxt]
  rfl
theorem callXN_of {n m : Nat} (h : ∀ rs k fr M r, runX A D n rs k fr M = some r → runX A D m rs k fr M = some r) : CallF.le (callXN A D n) (callXN A D m) := by
  intro f vs M r hr
  unfold callXN callX at *
  cases hF : A.fn? f with
  | none => rw [hF] at hr; exact hr
  | some F => rw [hF] at hr; exact h _ _ _ _ _ hr
theorem runX_mono : ∀ (n : Nat) (rs : List ARes) (k : List AItem) (fr : Fr) (M : Mem) (r : AVal × Mem), runX A D n rs k fr M = some r → runX A D (n + 1) rs k fr M = some r
  | 0, _, _, _, _, _, h => by simp [runX] at h
  | n + 1, rs, k, fr, M, r, h => by
    rw [runX_succ] at h ⊢
    obtain ⟨x, h1, h2⟩ := bind_some'.1 h
    refine bind_some'.2 ⟨x, (asks_nxt A.meth rs k fr M).grows _ _ _ (callXN_of A D (runX_mono n)) h1, ?_⟩
    cases x with
    | go k' fr' M' => exact runX_mono n rs k' fr' M' r h2
    | fin r' => exact h2
theorem runX_le {n m : Nat} (hm : n ≤ m) (rs : List ARes) (k : List AItem) (fr : Fr) (M : Mem) (r : AVal × Mem) (h : runX A D n rs k fr M = some r) : runX A D m rs k fr M = some r := by
  obtain ⟨d, rfl⟩ := Nat.exists_eq_add_of_le hm
  induction d with
  | zero => exact h
  | succ d ih => exact runX_mono A D _ _ _ _ _ _ (ih (by omega))
theorem callXN_le {n m : Nat} (hm : n ≤ m) : CallF.le (callXN A D n) (callXN A D m) := callXN_of A D (runX_le A D hm)
open Classical in
noncomputable def whole : CallF := fun f vs M => if h : ∃ r n, callXN A D n f vs M = some r then some h.choose else none
theorem whole_iff {f : FuncId} {vs : List AVal} {M : Mem} {r : AVal × Mem} : whole A D f vs M = some r ↔ ∃ n, callXN A D n f vs M = some r := by
  unfold whole
  constructor
  · intro h
    split at h
    · rename_i hx
      obtain rfl := Option.some.inj h
      exact hx.choose_spec
    · cases h
  · rintro ⟨n, hn⟩
    have hx : ∃ r n, callXN A D n f vs M = some r := ⟨r, n, hn⟩
    rw [dif_pos hx]
    obtain ⟨m, hm⟩ := hx.choose_spec
    have h1 := callXN_le A D (Nat.le_max_left n m) _ _ _ _ hn
    have h2 := callXN_le A D (Nat.le_max_right n m) _ _ _ _ hm
    rw [h1] at h2
    exact h2.symm
theorem whole_lims (f : FuncId) (vs : List AVal) (M : Mem) : Lims (callXN A D) (whole A D) fun c => c f vs M := fun r h => by
  obtain ⟨n, hn⟩ := (whole_iff A D).1 h
  exact ⟨n, fun m hm => callXN_le A D hm _ _ _ _ hn⟩
theorem runS_whole (rs : List ARes) : ∀ (j : Nat) (k : List AItem) (fr : Fr) (M : Mem) (r : AVal × Mem), runS false (whole A D) A.meth rs j k fr M = some r → ∃ n, runX A D n rs k fr M = some r
  | 0, _, _, _, _, h => by simp [runS] at h
  | j + 1, k, fr, M, r, h => by
    rw [runS_succ] at h
    obtain ⟨x, h1, h2⟩ := bind_some'.1 h
    obtain ⟨n, hn⟩ := (asks_nxt A.meth rs k fr M).lims (whole_lims A D) x h1
    cases x with
    | go k' fr' M' =>
      obtain ⟨m, hm⟩ := runS_whole rs j k' fr' M' r h2
      refine ⟨max n m + 1, ?_⟩
      rw [runX_succ]
      exact bind_some'.2 ⟨_, hn _ (Nat.le_max_left n m), runX_le A D (Nat.le_max_right n m) _ _ _ _ _ hm⟩
    | fin r' =>
      refine ⟨n + 1, ?_⟩
      rw [runX_succ]
      exact bind_some'.2 ⟨_, hn n (Nat.le_refl _), h2⟩
theorem whole_run {f : FuncId} {F : AFunc} {vs : List AVal} {M : Mem} {r : AVal × Mem} (hF : A.fn? f = some F) (h : run false (whole A D) A.meth F.results [.code F.body] (frame0 F vs) M = some r) : whole A D f vs M = some r := by
  obtain ⟨j, hj⟩ := (run_iff _ _ _ _).1 h
  obtain ⟨n, hn⟩ := runS_whole A D F.results j _ _ _ _ hj
  refine (whole_iff A D).2 ⟨n, ?_⟩
  unfold callXN callX
  rw [hF]
  exact hn
end
section
variable {P : Program} {A : AP} {D : CallF}
theorem runX_ok (hmix : P.follows .mixedOrders = true) (hmeth : MethOk P A.meth) (hfn : ∀ f F, A.fn? f = some F → okFn P f F = true) (hD : CallOk P D) : ∀ n, RunOk P (runX A D n) ∧ CallOk P (callXN A D n)
  | 0 => by
    have h : RunOk P (runX A D 0) := fun _ _ _ _ _ h => by simp [runX] at h
    refine ⟨h, ?_⟩
    intro σ B w0 M w f vs r hr hvs hc
    unfold callXN callX at hc
    cases hF : A.fn? f with
    | none => rw [hF] at hc; exact hD σ B w0 M w f vs r hr hvs hc
    | some F => rw [hF] at hc; exact RunOk1.call (hfn f F hF) (h F.results) hr hvs hc
  | n + 1 => by
    have h : RunOk P (runX A D (n + 1)) := fun rs => step_ok hmix hmeth (runX_ok hmix hmeth hfn hD n).2 ((runX_ok hmix hmeth hfn hD n).1 rs)
    refine ⟨h, ?_⟩
    intro σ B w0 M w f vs r hr hvs hc
    unfold callXN callX at hc
    cases hF : A.fn? f with
    | none => rw [hF] at hc; exact hD σ B w0 M w f vs r hr hvs hc
    | some F => rw [hF] at hc; exact RunOk1.call (hfn f F hF) (h F.results) hr hvs hc
theorem whole_ok (hmix : P.follows .mixedOrders = true) (hmeth : MethOk P A.meth) (hfn : ∀ f F, A.fn? f = some F → okFn P f F = true) (hD : CallOk P D) : CallOk P (whole A D) := by
  intro σ B w0 M w f vs r hr hvs hc
  obtain ⟨n, hn⟩ := (whole_iff A D).1 hc
  exact (runX_ok hmix hmeth hfn hD n).2 σ B w0 M w f vs r hr hvs hn
end
end Go.Abs
