import Derived.Test.YtjcakemgghfflaaXCall
set_option linter.unusedVariables false
set_option linter.unusedSimpArgs false
namespace Go.Abs
open Go.RowKit
section
variable {β γ : Type} {fc : Bool} {call : CallF} {meth : MethF} {f : β → Option γ}
theorem evalGL_bind : ∀ (g : GL) (fr : Fr) (M : Mem) (K : Fr → Mem → Option β), (evalGL fc call meth g fr M K).bind f = evalGL fc call meth g fr M fun fr M => (K fr M).bind f
  | .nil, _, _, _ => rfl
  | .op d o r, fr, M, K => by
    simp only [evalGL, evalOp_bind, fM_eq]
    congr 1; funext v M; exact evalGL_bind r _ _ _
  | .grp t w b r, fr, M, K => by
    simp only [evalGL, Option.bind_assoc, cond_bind]
    have h1 : ∀ fr M, ((evalGL fc call meth b fr M fun fr M => evalGL fc call meth r fr M K)).bind f = evalGL fc call meth b fr M fun fr M => evalGL fc call meth r fr M fun fr M => (K fr M).bind f := by
      intro fr M; rw [evalGL_bind b]; congr 1; funext fr M; exact evalGL_bind r _ _ _
    simp only [h1, evalGL_bind r]
theorem evalDL_bind : ∀ (g : DL) (fr : Fr) (M : Mem) (acc : List TRec) (K : Fr → Mem → List TRec → Option β), (evalDL fc call meth g fr M acc K).bind f = evalDL fc call meth g fr M acc fun fr M acc => (K fr M acc).bind f
  | .nil, _, _, _, _ => rfl
  | .op d o r, fr, M, acc, K => by
    simp only [evalDL, evalOp_bind, fM_eq]
    congr 1; funext v M; exact evalDL_bind r _ _ _ _
  | .grp t w b r, fr, M, acc, K => by
    simp only [evalDL, Option.bind_assoc, cond_bind]
    have h1 : ∀ fr M acc, ((evalDL fc call meth b fr M acc fun fr M acc => evalDL fc call meth r fr M acc K)).bind f = evalDL fc call meth b fr M acc fun fr M acc => evalDL fc call meth r fr M acc fun fr M acc => (K fr M acc).bind f := by
      intro fr M acc; rw [evalDL_bind b]; congr 1; funext fr M acc; exact evalDL_bind r _ _ _ _
    simp only [h1, evalDL_bind r]
end
section
variable (fc : Bool) (call : CallF) (meth : MethF) (rs : List ARes)
inductive Nx where
  | go (k : List AItem) (fr : Fr) (M : Mem)
  | fin (r : AVal × Mem)
def stepG {β : Type} (rec : List AItem → Fr → Mem → Option β) (fin : AVal × Mem → Option β) : List AItem → Fr → Mem → Option β
  | [], fr, M => (resOf rs fr M).bind fin
  | i :: k, fr, M => match i with
    | .inBlock _ => rec k fr M
    | .inLoop c => rec (.code c :: .inLoop c :: k) fr M
    | .code c => match c with
      | .skip => rec k fr M
      | .reg g kill => evalGL fc call meth g fr M fun fr M => rec k (fr.kill kill) M
      | .drw d ps kill => evalDL fc call meth d fr M [] fun fr M acc => cond (chkPairs acc.reverse M ps) (rec k (fr.kill kill) M) none
      | .seq a b => rec (.code a :: .code b :: k) fr M
      | .cond x a b => ev fr x fun v => v.bool?.bind fun t => cond t (rec (.code a :: k) fr M) (rec (.code b :: k) fr M)
      | .block id c => rec (.code c :: .inBlock id :: k) fr M
      | .loop c => rec (.code c :: .inLoop c :: k) fr M
      | .exit id => (exitA id k).bind fun k => rec k fr M
      | .ret => (resOf rs fr M).bind fin
      | .pt c => rec (.code c :: k) fr M
      | .kil ts c => rec (.code c :: k) (fr.kill ts) M
theorem stepF_eq (rec : RunF) (k : List AItem) (fr : Fr) (M : Mem) : stepF fc call meth rec rs k fr M = stepG fc call meth rs rec some k fr M := by
  cases k with
  | nil => simp [stepF, stepG]
  | cons i k =>
    cases i with
    | code c => cases c <;> first | rfl | simp [stepF, stepG]
    | inBlock _ => rfl
    | inLoop _ => rfl
theorem stepG_bind {β γ : Type} (f : β → Option γ) (rec : List AItem → Fr → Mem → Option β) (fin : AVal × Mem → Option β) (k : List AItem) (fr : Fr) (M : Mem) :
    (stepG fc call meth rs rec fin k fr M).bind f = stepG fc call meth rs (fun k fr M => (rec k fr M).bind f) (fun r => (fin r).bind f) k fr M := by
  cases k with
  | nil => simp [stepG, Option.bind_assoc]
  | cons i k =>
    cases i with
    | code c => cases c <;> first | rfl | simp [stepG, evalGL_bind, evalDL_bind, cond_bind, Option.bind_assoc, ev_bind]
    | inBlock _ => rfl
    | inLoop _ => rfl
def nxt (k : List AItem) (fr : Fr) (M : Mem) : Option Nx := stepG fc call meth rs (fun k fr M => some (.go k fr M)) (fun r => some (.fin r)) k fr M
def Nx.on {β : Type} (rec : List AItem → Fr → Mem → Option β) (fin : AVal × Mem → Option β) : Nx → Option β
  | .go k fr M => rec k fr M
  | .fin r => fin r
theorem stepG_nxt {β : Type} (rec : List AItem → Fr → Mem → Option β) (fin : AVal × Mem → Option β) (k : List AItem) (fr : Fr) (M : Mem) :
    stepG fc call meth rs rec fin k fr M = (nxt fc call meth rs k fr M).bind (Nx.on rec fin) := by
  unfold nxt
  rw [stepG_bind]
  rfl
def runS : Nat → RunF
  | 0 => fun _ _ _ => none
  | n + 1 => stepF fc call meth (runS n) rs
theorem runS_succ (n : Nat) (k : List AItem) (fr : Fr) (M : Mem) : runS fc call meth rs (n + 1) k fr M = (nxt fc call meth rs k fr M).bind (Nx.on (runS fc call meth rs n) some) := by
  show stepF fc call meth (runS fc call meth rs n) rs k fr M = _
  rw [stepF_eq, stepG_nxt]
theorem runS_mono : ∀ (n : Nat) {k : List AItem} {fr : Fr} {M : Mem} {r : AVal × Mem}, runS fc call meth rs n k fr M = some r → runS fc call meth rs (n + 1) k fr M = some r
  | 0, _, _, _, _, h => by simp [runS] at h
  | n + 1, k, fr, M, r, h => by
    rw [runS_succ] at h ⊢
    cases hn : nxt fc call meth rs k fr M with
    | none => simp [hn] at h
    | some x =>
      rw [hn] at h
      cases x with
      | go k' fr' M' => exact runS_mono n h
      | fin r' => exact h
theorem runS_le {n m : Nat} (hm : n ≤ m) {k : List AItem} {fr : Fr} {M : Mem} {r : AVal × Mem} (h : runS fc call meth rs n k fr M = some r) : runS fc call meth rs m k fr M = some r := by
  obtain ⟨d, rfl⟩ := Nat.exists_eq_add_of_le hm
  induction d with
  | zero => exact h
  | succ d ih => exact runS_mono _ _ _ _ _ (ih (by omega))
open Classical in
noncomputable def run : RunF := fun k fr M => if h : ∃ r n, runS fc call meth rs n k fr M = some r then some h.choose else none
theorem run_iff {k : List AItem} {fr : Fr} {M : Mem} {r : AVal × Mem} : run fc call meth rs k fr M = some r ↔ ∃ n, runS fc call meth rs n k fr M = some r := by
  unfold run
  constructor
  · intro h
    split at h
    · rename_i hx
      obtain rfl := Option.some.inj h
      exact hx.choose_spec
    · cases h
  · rintro ⟨n, hn⟩
    have hx : ∃ r n, runS fc call meth rs n k fr M = some r := ⟨r, n, hn⟩
    rw [dif_pos hx]
    obtain ⟨m, hm⟩ := hx.choose_spec
    have h1 := runS_le fc call meth rs (Nat.le_max_left n m) hn
    have h2 := runS_le fc call meth rs (Nat.le_max_right n m) hm
    rw [h1] at h2
    exact h2.symm
theorem run_fix (k : List AItem) (fr : Fr) (M : Mem) : run fc call meth rs k fr M = stepG fc call meth rs (run fc call meth rs) some k fr M := by
  rw [stepG_nxt]
  apply Option.ext
  intro r
  rw [run_iff]
  cases hn : nxt fc call meth rs k fr M with
  | none =>
    simp only [Option.bind_none]
    constructor
    · rintro ⟨n, h⟩
      cases n with
      | zero => simp [runS] at h
      | succ n => rw [runS_succ, hn] at h; exact h
    · intro h; cases h
  | some x =>
    cases x with
    | go k' fr' M' =>
      show _ ↔ run fc call meth rs k' fr' M' = some r
      rw [run_iff]
      constructor
      · rintro ⟨n, h⟩
        cases n with
        | zero => simp [runS] at h
        | succ n => rw [runS_succ, hn] at h; exact ⟨n, h⟩
      · rintro ⟨n, h⟩
        exact ⟨n + 1, by rw [runS_succ, hn]; exact h⟩
    | fin r' =>
      show _ ↔ some r' = some r
      constructor
      · rintro ⟨n, h⟩
        cases n with
        | zero => simp [runS] at h
        | succ n => rw [runS_succ, hn] at h; exact h
      · intro h
        exact ⟨1, by rw [runS_succ, hn]; exact h⟩
def seg {β : Type} (rec : List AItem → Fr → Mem → Option β) (fin : AVal × Mem → Option β) : Nat → List AItem → Fr → Mem → Option β
  | 0, k, fr, M => rec k fr M
  | n + 1, k, fr, M => match k with
    | .code (.pt c) :: k => rec (.code c :: k) fr M
    | k => stepG fc call meth rs (seg rec fin n) fin k fr M
theorem seg_run : ∀ (n : Nat) (k : List AItem) (fr : Fr) (M : Mem), seg fc call meth rs (run fc call meth rs) some n k fr M = run fc call meth rs k fr M
  | 0, _, _, _ => rfl
  | n + 1, k, fr, M => by
    unfold seg
    split
    · exact (run_fix fc call meth rs (.code (.pt _) :: _) fr M).symm
    · rw [run_fix]
      congr 1
      funext k fr M
      exact seg_run n k fr M
end
section
variable {P : Program} {fc : Bool} {call : CallF} {meth : MethF} {rs : List ARes}
theorem runS_ok (hmix : P.follows .mixedOrders = true) (hmeth : MethOk P meth) (hcall : CallOk P call) : ∀ n, RunOk1 P rs (runS fc call meth rs n)
  | 0 => fun _ _ _ _ h => by simp [runS] at h
  | n + 1 => step_ok hmix hmeth hcall (runS_ok hmix hmeth hcall n)
theorem run_ok (hmix : P.follows .mixedOrders = true) (hmeth : MethOk P meth) (hcall : CallOk P call) : RunOk1 P rs (run fc call meth rs) := by
  intro todo fr M r h
  obtain ⟨n, hn⟩ := (run_iff fc call meth rs).1 h
  exact runS_ok hmix hmeth hcall n _ _ _ _ hn
end
end Go.Abs
