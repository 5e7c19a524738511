import Derived.Test.YtjcakemgghfflaaXRun
set_option linter.unusedVariables false
set_option linter.unusedSimpArgs false
namespace Go.Abs
section
variable {β γ : Type} {fc : Bool} (f : β → Option γ)
theorem cond_bind (c : Bool) (x y : Option β) : (cond c x y).bind f = cond c (x.bind f) (y.bind f) := by cases c <;> rfl
theorem ev_bind (fr : Fr) (x : AOpd) (K : AVal → Option β) : (ev fr x K).bind f = ev fr x fun v => (K v).bind f := by
  cases x
  · simp [ev, Option.bind_assoc]
  · rfl
theorem evs_bind (fr : Fr) : ∀ (xs : List AOpd) (K : List AVal → Option β), (evs fr xs K).bind f = evs fr xs fun v => (K v).bind f
  | [], K => rfl
  | x :: xs, K => by
    simp only [evs, ev_bind]
    congr 1; funext v
    rw [evs_bind fr xs]
theorem evO_bind (fr : Fr) (x : Option AOpd) (K : Option AVal → Option β) : (evO fr x K).bind f = evO fr x fun v => (K v).bind f := by
  cases x
  · rfl
  · simp [evO, ev_bind]
theorem ptrK_bind (v : AVal) (K : Nat → Nat → Option β) : (ptrK v K).bind f = ptrK v fun a b => (K a b).bind f := by simp [ptrK, Option.bind_assoc]
theorem cast_bind (v : AVal) (t : CTy) (K : AVal → Option β) : (v.cast t K).bind f = v.cast t fun v => (K v).bind f := by cases t <;> simp [AVal.cast, Option.bind_assoc]
theorem castL_bind : ∀ (ts : List CTy) (l : List AVal) (K : List AVal → Option β), (castL ts l K).bind f = castL ts l fun v => (K v).bind f
  | [], l, K => by simp [castL, cond_bind]
  | t :: ts, l, K => by
    simp only [castL, Option.bind_assoc, cast_bind]
    congr 1; funext v
    congr 1; funext v
    rw [castL_bind ts]
theorem castR_bind (v : AVal) (t : RTy) (K : AVal → Option β) : (v.castR t K).bind f = v.castR t fun v => (K v).bind f := by cases t <;> simp [AVal.castR, cast_bind, castL_bind, Option.bind_assoc]
theorem castRL_bind : ∀ (ts : List RTy) (l : List AVal) (K : List AVal → Option β), (castRL ts l K).bind f = castRL ts l fun v => (K v).bind f
  | [], l, K => by simp [castRL, cond_bind]
  | t :: ts, l, K => by
    simp only [castRL, Option.bind_assoc, castR_bind]
    congr 1; funext v
    congr 1; funext v
    rw [castRL_bind ts]
theorem castRs_bind (v : AVal) (t : RTys) (K : AVal → Option β) : (v.castRs t K).bind f = v.castRs t fun v => (K v).bind f := by cases t <;> simp [AVal.castRs, castR_bind, castRL_bind, Option.bind_assoc]
theorem ldT_bind (M : Mem) (t : CTy) (o i : Nat) (K : AVal → Option β) : (M.ldT t o i K).bind f = M.ldT t o i fun v => (K v).bind f := by cases t <;> simp [Mem.ldT, Option.bind_assoc]
theorem ldTs_bind (M : Mem) : ∀ (ts : List CTy) (o i : Nat) (K : List AVal → Option β), (M.ldTs ts o i K).bind f = M.ldTs ts o i fun v => (K v).bind f
  | [], _, _, K => rfl
  | t :: ts, o, i, K => by
    simp only [Mem.ldTs, ldT_bind]
    congr 1; funext v
    rw [ldTs_bind M ts]
theorem binI_bind (op : BinOp) (k : IntKind) (a b : Int) (K : AVal → Option β) : (binI fc op k a b K).bind f = binI fc op k a b fun v => (K v).bind f := by cases op <;> simp [binI, cond_bind]
theorem shiftI_bind (op : BinOp) (k : IntKind) (a b : Int) (K : AVal → Option β) : (shiftI fc op k a b K).bind f = shiftI fc op k a b fun v => (K v).bind f := by
  unfold shiftI; rw [cond_bind]; cases op <;> simp
theorem eq1_bind (t : CTy) (x y : AVal) (K : Bool → Option β) : (eq1 t x y K).bind f = eq1 t x y fun v => (K v).bind f := by cases t <;> simp [eq1, Option.bind_assoc]
theorem eqAgg_bind (xs ys : List AVal) : ∀ (l : List (Nat × CTy)) (K : Bool → Option β), (eqAgg xs ys l K).bind f = eqAgg xs ys l fun v => (K v).bind f
  | [], K => rfl
  | (i, t) :: l, K => by
    simp only [eqAgg, Option.bind_assoc, eq1_bind]
    congr 1; funext x
    congr 1; funext y
    congr 1; funext b
    rw [eqAgg_bind xs ys l]
theorem eqv_bind (M : Mem) (t : ETy) (x y : AVal) (K : Bool → Option β) : (eqv M t x y K).bind f = eqv M t x y fun v => (K v).bind f := by
  cases t <;> simp only [eqv, Option.bind_assoc, eq1_bind, eqAgg_bind]
  · congr 1; funext a; congr 1; funext b
    cases b.1
    · rfl
    · cases a.1 <;> rfl
  · congr 1; funext a; congr 1; funext b
    cases b.1 <;> rfl
  · congr 1; funext a; congr 1; funext b
    cases b.1 <;> rfl
theorem fillA_bind (fr : Fr) : ∀ (ps : List (Nat × Nat × AOpd)) (cs : List AVal) (K : List AVal → Option β), (fillA fr ps cs K).bind f = fillA fr ps cs fun v => (K v).bind f
  | [], cs, K => rfl
  | (off, n, x) :: ps, cs, K => by
    simp only [fillA, ev_bind, cond_bind, Option.bind_none]
    congr 1; funext v
    rw [fillA_bind fr ps]
theorem asNat_bind (v : AVal) (K : Nat → Option β) : (asNat fc v K).bind f = asNat fc v fun n => (K n).bind f := by cases v <;> simp [asNat, cond_bind]
theorem asNatO_bind (v : Option AVal) (d : Nat) (K : Nat → Option β) : (asNatO fc v d K).bind f = asNatO fc v d fun n => (K n).bind f := by
  cases v
  · rfl
  · simp [asNatO, asNat_bind]
theorem slcU_bind (size : Nat) (M : Mem) (o i k l h : Nat) (K : Option (Nat × Nat) → Nat → Cap → Option β) : (slcU size M o i k l h K).bind f = slcU size M o i k l h fun a n c => (K a n c).bind f := by
  simp only [slcU, Option.bind_assoc, cond_bind, Option.bind_none]
theorem slcK_bind (size : Nat) (a : Option (Nat × Nat)) (len : Nat) (cap : Cap) (M : Mem) (lo hi mx : Option AVal) (K : Option (Nat × Nat) → Nat → Cap → Option β) :
    (slcK fc size a len cap M lo hi mx K).bind f = slcK fc size a len cap M lo hi mx fun a n c => (K a n c).bind f := by
  cases cap with
  | known c => simp [slcK, asNatO_bind, cond_bind]
  | unk k =>
    cases a with
    | none => rfl
    | some p =>
      cases mx with
      | none => simp [slcK, asNatO_bind, cond_bind, slcU_bind]
      | some mv => simp [slcK, asNat_bind, asNatO_bind, cond_bind, Option.bind_assoc]
  | fin k d =>
    cases mx with
    | none => simp [slcK, asNatO_bind, cond_bind]
    | some mv => rfl
  | odd =>
    cases mx with
    | none => simp [slcK, asNatO_bind, cond_bind]
    | some mv => rfl
theorem lenOf_bind (v : AVal) (K : Nat → Option β) : (lenOf fc v K).bind f = lenOf fc v fun n => (K n).bind f := by cases v <;> simp [lenOf]
theorem firstOf_bind (size : Nat) (M : Mem) (v : AVal) (n : Nat) (K : List AVal → Option β) : (firstOf size M v n K).bind f = firstOf size M v n fun l => (K l).bind f := by
  cases v <;> simp [firstOf, cond_bind]
  simp [Option.bind_assoc]
theorem appK_bind (size bytes : Nat) (M : Mem) (a : Option (Nat × Nat)) (len : Nat) (cap : Cap) (y : AVal) (K : Option (Nat × Nat) → Nat → Cap → Mem → Option β) :
    (appK fc size bytes M a len cap y K).bind f = appK fc size bytes M a len cap y fun a n c M => (K a n c M).bind f := by
  simp only [appK, lenOf_bind]
  congr 1; funext n
  cases cap with
  | known c =>
    simp only [cond_bind, firstOf_bind, Option.bind_none]
    cases a <;> simp [firstOf_bind, Option.bind_assoc]
  | unk k =>
    cases a with
    | none => rfl
    | some p =>
      simp only [Option.bind_assoc, cond_bind, Option.bind_none]
      congr 1; funext x; congr 1; funext l
      congr 1
      congr 1
      cases x.kind <;> simp [cond_bind, firstOf_bind, Option.bind_assoc]
  | fin k d =>
    simp only [cond_bind, Option.bind_none]
    congr 2
    cases a with
    | none => rfl
    | some p =>
      simp only [Option.bind_assoc]
      congr 1; funext x; congr 1; funext l
      cases x.kind <;> simp [cond_bind, firstOf_bind]
  | odd => simp only [cond_bind, Option.bind_none, firstOf_bind]
theorem copyK_bind (size : Nat) (M : Mem) (a : Option (Nat × Nat)) (len : Nat) (cap : Cap) (y : AVal) (K : Nat → Mem → Option β) :
    (copyK fc size M a len cap y K).bind f = copyK fc size M a len cap y fun m M => (K m M).bind f := by
  simp [copyK, lenOf_bind, cond_bind, firstOf_bind, Option.bind_assoc]
theorem clearK_bind (zero : List AVal) (M : Mem) (a : Option (Nat × Nat)) (len : Nat) (cap : Cap) (K : Mem → Option β) :
    (clearK zero M a len cap K).bind f = clearK zero M a len cap fun M => (K M).bind f := by
  simp [clearK, cond_bind, Option.bind_assoc]
theorem minL_bind (K : AVal → Option β) (k : IntKind) : ∀ (l : List AVal) (a : Int), (minI.minL K k a l).bind f = minI.minL (fun v => (K v).bind f) k a l
  | [], a => rfl
  | x :: l, a => by cases x <;> simp [minI.minL, minL_bind K k l]
theorem maxL_bind (K : AVal → Option β) (k : IntKind) : ∀ (l : List AVal) (a : Int), (maxI.maxL K k a l).bind f = maxI.maxL (fun v => (K v).bind f) k a l
  | [], a => rfl
  | x :: l, a => by cases x <;> simp [maxI.maxL, maxL_bind K k l]
theorem minI_bind (l : List AVal) (K : AVal → Option β) : (minI l K).bind f = minI l fun v => (K v).bind f := by
  cases l with
  | nil => rfl
  | cons x l => cases x <;> simp [minI, minL_bind]
theorem maxI_bind (l : List AVal) (K : AVal → Option β) : (maxI l K).bind f = maxI l fun v => (K v).bind f := by
  cases l with
  | nil => rfl
  | cons x l => cases x <;> simp [maxI, maxL_bind]
theorem readK_bind (call : CallF) (g : FuncId) (M : Mem) (v : AVal) (K : AVal → Option β) : (readK call g M v K).bind f = readK call g M v fun u => (K u).bind f := by
  unfold readK
  split <;> simp [cond_bind, Option.bind_assoc]
theorem evalOp_bind (call : CallF) (meth : MethF) (o : AOp) (fr : Fr) (M : Mem) (K : AVal → Mem → Option β) :
    (evalOp fc call meth o fr M K).bind f = evalOp fc call meth o fr M fun v M => (K v M).bind f := by
  cases o <;> simp only [evalOp, readK_bind, ev_bind, evs_bind, evO_bind, ptrK_bind, ldT_bind, ldTs_bind, cond_bind, Option.bind_assoc, Option.bind_none, fillA_bind, castRs_bind, minI_bind, maxI_bind, copyK_bind, clearK_bind, eqv_bind, lenOf_bind, firstOf_bind, fB_eq, fI_eq, fN_eq]
  case nilCk => congr 1; funext v; cases v <;> simp [Option.bind_assoc]
  case bin => congr 1; funext x; congr 1; funext y; cases x <;> try rfl
              cases y <;> simp [cond_bind, binI_bind]
  case shift => congr 1; funext x; congr 1; funext y; cases x <;> try rfl
                cases y <;> simp [shiftI_bind]
  case streq => congr 1; funext x; congr 1; funext y; cases x <;> try rfl
                cases y <;> simp
  case neg => congr 1; funext v; cases v <;> simp [binI_bind]
  case com => congr 1; funext v; cases v <;> simp [binI_bind]
  case convI => congr 1; funext v; cases v <;> simp
  case mkSl => congr 1; funext v; congr 1; funext u; simp [asNat_bind, cond_bind]
  case slc => congr 1; funext x; congr 1; funext a; congr 1; funext b; congr 1; funext c; cases x <;> simp [slcK_bind]
  case slcA => simp [slcK_bind]
  case slcS => simp [asNatO_bind, cond_bind]
  case ixS => simp [asNat_bind, cond_bind, Option.bind_assoc]
  case ixA => simp [asNat_bind, cond_bind, Option.bind_assoc]
  case ixStr => simp [asNat_bind, cond_bind, Option.bind_assoc]
  case ixV => simp [asNat_bind, cond_bind, Option.bind_assoc]
  case cap => congr 1; funext v; congr 1; funext s; cases s.2.2 <;> rfl
  case look => simp only [cast_bind, cond_bind]
  case appZ => simp only [appK_bind]
  case app => congr 1; funext x; congr 1; funext y; cases x <;> simp [appK_bind]
end
theorem evalOp_split {β : Type} {fc : Bool} {call : CallF} {meth : MethF} {o : AOp} {fr : Fr} {M : Mem} {K : AVal → Mem → Option β} {r : β} (h : evalOp fc call meth o fr M K = some r) :
    ∃ v M', evalOp fc call meth o fr M (fun v M => some (v, M)) = some (v, M') ∧ K v M' = some r := by
  have : evalOp fc call meth o fr M K = (evalOp fc call meth o fr M fun v M => some (v, M)).bind fun p => K p.1 p.2 := by
    rw [evalOp_bind]; rfl
  rw [this, Option.bind_eq_some_iff] at h
  obtain ⟨⟨v, M'⟩, h1, h2⟩ := h
  exact ⟨v, M', h1, h2⟩
end Go.Abs
