import Derived.Test.YtjcakemgghfflaaXDrw1
import Derived.Still
set_option linter.unusedVariables false
set_option linter.unusedSimpArgs false
namespace Go.Abs
open Go.RowKit
def fmT (T : List TRec) (fr : Fr) (k : Nat) : Fr := match T[k]? with
  | some R => R.fr
  | none => fr
def mmT (T : List TRec) (M : Mem) (k : Nat) : Mem := match T[k]? with
  | some R => R.M
  | none => M
section
variable {P : Program} {ops : Array Oper} {fc : Bool} {call : CallF} {meth : MethF}
theorem fmT_cons (R : TRec) (T : List TRec) (fr : Fr) (k : Nat) : fmT (R :: T) fr (k + 1) = fmT T fr k := by simp [fmT]
theorem mmT_cons (R : TRec) (T : List TRec) (M : Mem) (k : Nat) : mmT (R :: T) M (k + 1) = mmT T M k := by simp [mmT]
theorem Run.facts {i : Nat} {sk : List Nat} {fr : Fr} {M : Mem} {T : List TRec} {i' : Nat} {sk' : List Nat} {fr' : Fr} {M' : Mem} (h : Run P ops fc call meth i sk fr M T i' sk' fr' M') :
    i + T.length = i' ∧ fmT T fr' 0 = fr ∧ mmT T M' 0 = M ∧ ∀ k R, T[k]? = some R → ∃ o, ops[i + k]? = some o ∧ okOp P o.op R.o = true ∧
      ((∃ v, R.st = some v ∧ evalOp fc call meth R.o R.fr R.M K0 = some (v, mmT T M' (k + 1)) ∧ fmT T fr' (k + 1) = R.fr.put o.dst v ∧
          (o.guard = none ∨ ∃ j w t, o.guard = some (j, w) ∧ (ops[j]?).bind (·.dst) = some t ∧ R.fr.g t = some (.bool w))) ∨
        (R.st = none ∧ fmT T fr' (k + 1) = R.fr.killO o.dst ∧ mmT T M' (k + 1) = R.M ∧
          ∃ j w, o.guard = some (j, w) ∧ ((∃ t x, (ops[j]?).bind (·.dst) = some t ∧ R.fr.g t = some (.bool x) ∧ x ≠ w) ∨ j ∈ sk ∨ ∃ j', j = i + j' ∧ j' < k ∧ ∃ R', T[j']? = some R' ∧ R'.st = none))) := by
  induction h with
  | nil i sk fr M => exact ⟨rfl, rfl, rfl, fun k R h => by simp at h⟩
  | @exec i sk fr M o a v M1 T i' sk' fr' M' ho hok he hg hrun ih =>
    obtain ⟨h1, h2, h3, h4⟩ := ih
    refine ⟨by simp only [List.length_cons]; omega, rfl, rfl, fun k R hR => ?_⟩
    cases k with
    | zero =>
      simp only [List.getElem?_cons_zero, Option.some.injEq] at hR
      subst hR
      refine ⟨o, ho, hok, .inl ⟨v, rfl, ?_, ?_, hg⟩⟩
      · rw [mmT_cons, h3]; exact he
      · rw [fmT_cons, h2]
    | succ k =>
      simp only [List.getElem?_cons_succ] at hR
      obtain ⟨o', a1, a2, a3⟩ := h4 k R hR
      refine ⟨o', by rw [← a1]; congr 1; omega, a2, ?_⟩
      rw [mmT_cons, fmT_cons]
      rcases a3 with a3 | ⟨b1, b2, b3, j, w, b4, b5⟩
      · exact .inl a3
      · refine .inr ⟨b1, b2, b3, j, w, b4, ?_⟩
        rcases b5 with b5 | b5 | ⟨j', c1, c2, R', c3, c4⟩
        · exact .inl b5
        · exact .inr (.inl b5)
        · exact .inr (.inr ⟨j' + 1, by omega, by omega, R', by simpa using c3, c4⟩)
  | @skip i sk fr M o a T i' sk' fr' M' ho hok hg hrun ih =>
    obtain ⟨h1, h2, h3, h4⟩ := ih
    refine ⟨by simp only [List.length_cons]; omega, rfl, rfl, fun k R hR => ?_⟩
    cases k with
    | zero =>
      simp only [List.getElem?_cons_zero, Option.some.injEq] at hR
      subst hR
      obtain ⟨j, w, g1, g2⟩ := hg
      refine ⟨o, ho, hok, .inr ⟨rfl, by rw [fmT_cons, h2], by rw [mmT_cons, h3], j, w, g1, ?_⟩⟩
      rcases g2 with g2 | g2
      · exact .inl g2
      · exact .inr (.inl g2)
    | succ k =>
      simp only [List.getElem?_cons_succ] at hR
      obtain ⟨o', a1, a2, a3⟩ := h4 k R hR
      refine ⟨o', by rw [← a1]; congr 1; omega, a2, ?_⟩
      rw [mmT_cons, fmT_cons]
      rcases a3 with a3 | ⟨b1, b2, b3, j, w, b4, b5⟩
      · exact .inl a3
      · refine .inr ⟨b1, b2, b3, j, w, b4, ?_⟩
        rcases b5 with b5 | b5 | ⟨j', c1, c2, R', c3, c4⟩
        · exact .inl b5
        · rcases List.mem_cons.1 b5 with rfl | b5
          · exact .inr (.inr ⟨0, by omega, by omega, _, rfl, rfl⟩)
          · exact .inr (.inl b5)
        · exact .inr (.inr ⟨j' + 1, by omega, by omega, R', by simpa using c3, c4⟩)
end
def direct (o : Oper) : List Nat := o.after.toList.filterMap fun e => cond (Region.binds .any e) (some e.on) none
theorem mem_direct {o : Oper} {k : Nat} : k ∈ direct o ↔ ∃ e ∈ o.after, Region.binds .any e = true ∧ e.on = k := by
  unfold direct
  simp only [List.mem_filterMap, Array.mem_toList_iff]
  constructor
  · rintro ⟨e, he, h⟩
    cases hb : Region.binds .any e
    · simp [hb] at h
    · simp [hb] at h; exact ⟨e, he, hb, h⟩
  · rintro ⟨e, he, hb, h⟩
    exact ⟨e, he, by simp [hb, h]⟩
def befs : List Oper → List (List Nat) → List (List Nat)
  | [], acc => acc
  | o :: os, acc => befs os (acc ++ [(direct o ++ (direct o).flatMap fun k => acc.getD k []).eraseDups])
theorem befs_spec : ∀ (os : List Oper) (acc : List (List Nat)), (befs os acc).length = acc.length + os.length ∧ (∀ i, i < acc.length → (befs os acc)[i]? = acc[i]?) ∧
    ∀ i o, os[i]? = some o → ∀ j, j ∈ (befs os acc).getD (acc.length + i) [] → j ∈ direct o ∨ ∃ k ∈ direct o, k < acc.length + i ∧ j ∈ (befs os acc).getD k []
  | [], acc => ⟨rfl, fun _ _ => rfl, fun i o h => by simp at h⟩
  | o :: os, acc => by
    obtain ⟨h1, h2, h3⟩ := befs_spec os (acc ++ [(direct o ++ (direct o).flatMap fun k => acc.getD k []).eraseDups])
    simp only [befs]
    refine ⟨by rw [h1]; simp; omega, fun i hi => ?_, fun i o' ho' j hj => ?_⟩
    · rw [h2 i (by simp; omega), List.getElem?_append_left hi]
    · cases i with
      | zero =>
        simp only [List.getElem?_cons_zero, Option.some.injEq] at ho'
        subst ho'
        rw [List.getD_eq_getElem?_getD, Nat.add_zero, h2 _ (by simp)] at hj
        simp only [List.getElem?_append_right (Nat.le_refl _), Nat.sub_self, List.getElem?_cons_zero, Option.getD_some, List.mem_eraseDups, List.mem_append, List.mem_flatMap] at hj
        rcases hj with hj | ⟨k, hk, hj⟩
        · exact .inl hj
        · right
          have hlt : k < acc.length := by
            rcases Nat.lt_or_ge k acc.length with h | h
            · exact h
            · rw [List.getD_eq_getElem?_getD, List.getElem?_eq_none h] at hj; simp at hj
          refine ⟨k, hk, by omega, ?_⟩
          rw [List.getD_eq_getElem?_getD, h2 k (by simp; omega), List.getElem?_append_left hlt, ← List.getD_eq_getElem?_getD]
          exact hj
      | succ i =>
        simp only [List.getElem?_cons_succ] at ho'
        have := h3 i o' ho' j (by rw [show (acc ++ [(direct o ++ (direct o).flatMap fun k => acc.getD k []).eraseDups]).length + i = acc.length + (i + 1) from by simp; omega]; exact hj)
        rcases this with h | ⟨k, k1, k2, k3⟩
        · exact .inl h
        · exact .inr ⟨k, k1, by simp at k2; omega, k3⟩
def dstOf (ops : Array Oper) (i : Nat) : Option Tmp := (ops[i]?).bind (·.dst)
def rdOf (ops : Array Oper) (flat : List AOp) (i : Nat) : List Tmp := (match flat[i]? with | some a => aTemps a | none => []) ++ (match (ops[i]?).bind (·.guard) with | some (j, _) => (dstOf ops j).toList | none => [])
def apartB (di dj : Option Tmp) (ri rj : List Tmp) : Bool := (match di with | some t => !rj.contains t && decide (dj ≠ some t) | none => true) && (match dj with | some t => !ri.contains t | none => true)
def effAt (flat : List AOp) (i : Nat) : Bool := (flat[i]?).any isEff
def memAt (flat : List AOp) (i : Nat) : Bool := (flat[i]?).any memFree
def loadAt (flat : List AOp) (i : Nat) : Bool := (flat[i]?).any isLoad
def pairB (ops : Array Oper) (flat : List AOp) (bs : List (List Nat)) (ps : List (Nat × Nat)) (i j : Nat) : Bool :=
  (bs.getD j []).contains i || (apartB (dstOf ops i) (dstOf ops j) (rdOf ops flat i) (rdOf ops flat j) && !(effAt flat i && effAt flat j) &&
    (!effAt flat i || memAt flat j || (loadAt flat j && ps.contains (j, i))) && (!effAt flat j || memAt flat i || (loadAt flat i && ps.contains (i, j))))
def drwOk (ops : Array Oper) (flat : List AOp) (ps : List (Nat × Nat)) : Bool :=
  let bs := befs ops.toList []
  Nat.beq flat.length ops.size && (List.range ops.size).all fun j => (match ops[j]? with
    | some o => (direct o).all (fun k => Nat.blt k j) && (match o.guard with
      | some (g, _) => (direct o).contains g && (List.range ops.size).all fun k => Nat.beq k g || decide (dstOf ops k ≠ dstOf ops g)
      | none => true)
    | none => false) && (List.range j).all fun i => pairB ops flat bs ps i j
end Go.Abs
