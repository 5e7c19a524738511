import Derived.Test.YtjcakemgghfflaaXWhole
set_option linter.unusedVariables false
set_option linter.unusedSimpArgs false
namespace Go.Abs
theorem asNat_fc {β : Type} (v : AVal) (K : Nat → Option β) : asNat true v K = asNat false v K := by cases v <;> simp [asNat]
theorem asNatO_fc {β : Type} (v : Option AVal) (d : Nat) (K : Nat → Option β) : asNatO true v d K = asNatO false v d K := by cases v <;> simp [asNatO, asNat_fc]
theorem lenOf_fc {β : Type} (v : AVal) (K : Nat → Option β) : lenOf true v K = lenOf false v K := by cases v <;> simp [lenOf]
theorem binI_fc {β : Type} (op : BinOp) (k : IntKind) (a b : Int) (K : AVal → Option β) : binI true op k a b K = binI false op k a b K := by cases op <;> simp [binI]
theorem shiftI_fc {β : Type} (op : BinOp) (k : IntKind) (a b : Int) (K : AVal → Option β) : shiftI true op k a b K = shiftI false op k a b K := by cases op <;> simp [shiftI]
theorem slcK_fc {β : Type} (size : Nat) (a : Option (Nat × Nat)) (len : Nat) (cap : Cap) (M : Mem) (lo hi mx : Option AVal) (K : Option (Nat × Nat) → Nat → Cap → Option β) : slcK true size a len cap M lo hi mx K = slcK false size a len cap M lo hi mx K := by
  unfold slcK
  simp only [asNat_fc, asNatO_fc]
theorem appK_fc {β : Type} (size bytes : Nat) (M : Mem) (a : Option (Nat × Nat)) (len : Nat) (cap : Cap) (y : AVal) (K : Option (Nat × Nat) → Nat → Cap → Mem → Option β) : appK true size bytes M a len cap y K = appK false size bytes M a len cap y K := by
  unfold appK
  simp only [lenOf_fc]
theorem copyK_fc {β : Type} (size : Nat) (M : Mem) (a : Option (Nat × Nat)) (len : Nat) (cap : Cap) (y : AVal) (K : Nat → Mem → Option β) : copyK true size M a len cap y K = copyK false size M a len cap y K := by
  unfold copyK
  simp only [lenOf_fc, fN_eq]
theorem evalOp_fc {β : Type} (call : CallF) (meth : MethF) (o : AOp) (fr : Fr) (M : Mem) (K : AVal → Mem → Option β) : evalOp true call meth o fr M K = evalOp false call meth o fr M K := by
  cases o <;> simp only [evalOp, asNat_fc, asNatO_fc, lenOf_fc, binI_fc, shiftI_fc, slcK_fc, appK_fc, copyK_fc, fI_eq, fN_eq, fB_eq]
theorem evalGL_fc {β : Type} (call : CallF) (meth : MethF) : ∀ (g : GL) (fr : Fr) (M : Mem) (K : Fr → Mem → Option β), evalGL true call meth g fr M K = evalGL false call meth g fr M K
  | .nil, _, _, _ => rfl
  | .op d o r, fr, M, K => by simp only [evalGL, evalOp_fc, fM_eq, evalGL_fc call meth r]
  | .grp t w b r, fr, M, K => by simp only [evalGL, evalGL_fc call meth r, evalGL_fc call meth b]
theorem evalDL_fc {β : Type} (call : CallF) (meth : MethF) : ∀ (g : DL) (fr : Fr) (M : Mem) (acc : List TRec) (K : Fr → Mem → List TRec → Option β), evalDL true call meth g fr M acc K = evalDL false call meth g fr M acc K
  | .nil, _, _, _, _ => rfl
  | .op d o r, fr, M, acc, K => by simp only [evalDL, evalOp_fc, fM_eq, evalDL_fc call meth r]
  | .grp t w b r, fr, M, acc, K => by simp only [evalDL, evalDL_fc call meth r, evalDL_fc call meth b]
theorem stepF_fc (call : CallF) (meth : MethF) (rec : RunF) (rs : List ARes) (k : List AItem) (fr : Fr) (M : Mem) : stepF true call meth rec rs k fr M = stepF false call meth rec rs k fr M := by
  cases k with
  | nil => rfl
  | cons i k => cases i with
    | code c => cases c <;> first | rfl | simp only [stepF, evalGL_fc, evalDL_fc]
    | inBlock _ => rfl
    | inLoop _ => rfl
theorem runN_X (A : AP) : ∀ n, runN true A n = runX A CallF.empty n
  | 0 => rfl
  | n + 1 => by
    funext rs k fr M
    show stepF true (callBy A (runN true A n)) A.meth (runN true A n rs) rs k fr M = stepF false (callX A CallF.empty (runX A CallF.empty n)) A.meth (runX A CallF.empty n rs) rs k fr M
    rw [stepF_fc, runN_X A n]
    congr 1
    funext f vs M
    unfold callBy callX
    cases A.fn? f <;> rfl
theorem callN_X (A : AP) (n : Nat) : callN true A n = callXN A CallF.empty n := by
  funext f vs M
  unfold callN callXN callBy callX
  rw [runN_X]
  cases A.fn? f <;> rfl
theorem whole_says {A : AP} {f : FuncId} {n : Nat} {vs : List AVal} {M : Mem} (h : saysTrue (callN true A n f vs M) = true) : ∃ M', whole A CallF.empty f vs M = some (.bool true, M') := by
  obtain ⟨M', h⟩ := saysTrue_some h
  rw [callN_X] at h
  exact ⟨M', (whole_iff A CallF.empty).2 ⟨n, h⟩⟩
end Go.Abs
