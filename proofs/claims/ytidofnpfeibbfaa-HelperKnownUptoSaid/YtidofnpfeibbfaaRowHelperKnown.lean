import Derived.Test.YtidofnpfeibbfaaRows
import Derived.JoinedCond
import Derived.Deep.CondSized
import Derived.Test.YtidofnpfeibbfaaHKL
namespace Go.Proofs.Ytidofnpfeibbfaa.helperKnown
open Go.ChangeShapes Go.WideShapes Go.ChangeAt Go.RowKit Go.Abs
set_option linter.unusedVariables false
set_option linter.unusedSimpArgs false
set_option linter.unnecessarySimpa false
theorem own : ownKnob Try.prog.godebug = none := by kernel_rfl
theorem laidOut : laidOutB Try.prog = true := by kernel_rfl
theorem rows : argsOf Try.prog 20 Try.f6.params.toList = some [] := by kernel_rfl
theorem one_bulk {H : Type} (d : DataW H) : 1 ≤ Rows.uptoBulk d := by
  cases d with
  | lit l => cases l <;> simp [Rows.uptoBulk]
  | nil => simp [Rows.uptoBulk]
  | ptr d => simp [Rows.uptoBulk]
  | slice elems spare => simp [Rows.uptoBulk]
  | agg parts => simp [Rows.uptoBulk]
  | iface t d => simp [Rows.uptoBulk]
  | map entries => simp [Rows.uptoBulk]
  | held h => simp [Rows.uptoBulk]
theorem length_bulk {H : Type} : ∀ l : List (DataW H), l.length ≤ Rows.uptoBulkAll l
  | [] => by simp
  | x :: r => by have := one_bulk x; have := length_bulk r; simp only [Rows.uptoBulkAll, List.length_cons]; omega
mutual
theorem lens_bulk {H : Type} (L : Nat) : ∀ d : DataW H, Rows.uptoBulk d ≤ L → lensLe L d
  | .slice elems spare, h => by
    simp only [Rows.uptoBulk] at h
    simp only [lensLe]
    exact ⟨by have := length_bulk elems; omega, lens_bulkL L elems (by omega)⟩
  | .agg parts, h => by
    simp only [Rows.uptoBulk] at h
    simp only [lensLe]
    exact lens_bulkL L parts (by omega)
  | .lit _, _ => by simp [lensLe]
  | .nil, _ => by simp [lensLe]
  | .ptr _, _ => by simp [lensLe]
  | .iface _ _, _ => by simp [lensLe]
  | .map _, _ => by simp [lensLe]
  | .held _, _ => by simp [lensLe]
theorem lens_bulkL {H : Type} (L : Nat) : ∀ ds : List (DataW H), Rows.uptoBulkAll ds ≤ L → lensLeL L ds
  | [], _ => by simp [lensLeL]
  | d :: ds, h => by
    simp only [Rows.uptoBulkAll] at h
    simp only [lensLeL]
    exact ⟨lens_bulk L d (by omega), lens_bulkL L ds (by omega)⟩
end
theorem small {H : Type} {ds : List (DataW H)} (h : Rows.uptoSmall H ds = true) : ∀ d ∈ ds, lensLe 1048576 d := by
  have h1 : Rows.uptoBulkAll ds ≤ 1048576 := of_decide_eq_true h
  exact lensLeL_iff.1 (lens_bulkL _ ds h1)
set_option maxRecDepth 100000 in
theorem lifted (os : Os) (started : os.Started) (H : Type) (enc : TypeId × Value → H) (F : Stop.Interp) :
    ReturnsInHanded {} Try.checked os 6 .any ((Rows.OpenSpec.upto Rows.helperKnownSpec).pre6 enc Try.prog Try.f6 Rows.helperKnownUptoRow.domain false) (((Rows.OpenSpec.upto Rows.helperKnownSpec).at F).post enc Try.prog Try.f6 false true false false) := by
  refine returnsInHanded_of_cond_sized (C := Try.checked) (s := (Rows.OpenSpec.upto Rows.helperKnownSpec)) (k := Rows.uptoSmall) rfl own started (by kernel_rfl) Try.func6
    (OpenSpec.witness (enc := enc) (C := Try.checked) (s := (Rows.OpenSpec.upto Rows.helperKnownSpec)) (k := Rows.uptoSmall) rfl false ⟨#[], #[], []⟩ 8 (by kernel_rfl) (by kernel_rfl) (by kernel_rfl)
      (x := ([], [], [])) (by kernel_rfl) rfl (by kernel_rfl)) ?_
  intro W base args ds gs before hval0 hW hcnd hkk hsz0 _
  have hW' := hW
  obtain ⟨p, q, hA, hV, rfl, hfz, hnd⟩ := hW
  have hval : ∀ (j : Nat) t v, Try.f6.params.toList[j]? = some t → args.toList[j]? = some v → Value.okWide Try.prog W .any base t v := by
    intro j t v h1 h2
    rw [Try.params6] at h1; simp at h1
  have hcall := law_calls_q (P := Try.prog) (Q := (· = 1048576)) (f := 6) M.C_ok hA rows hval hsz0 (fun L hL d hd => by subst hL; exact small hkk d (by simp [hd])) M.HelperKnown_law
  have hshape : ∃ (u : Unit), ds = [] := by
    have hA1 := hA
    rw [Try.params6] at hA1
    obtain ⟨-, h, -⟩ := trodAll_nil hA1
    exact ⟨(), h⟩
  obtain ⟨-, rfl⟩ := hshape
  obtain ⟨rfl, rfl⟩ := trodVars_none hV
  rw [Array.toArray_toList] at hcall
  refine hcall.mono fun e W' ⟨he, bel⟩ => ?_
  subst he
  exact ⟨_, rfl, _, _, _, [], _, [], hW', trodAll_mk1 (shut_bool Try.underlying4 _), trodAll_again laidOut bel (by kernel_rfl) hA, rfl, bel.frame _, fun h => by cases h⟩
theorem over : Rows.helperKnownUptoRow.holds Try.pinned (Rows.OpenSpec.upto Rows.helperKnownSpec) :=
  OpenClaim.holds_of_cond 6 Try.f6 rfl rfl rfl rfl rfl rfl rfl ⟨rfl, rfl, rfl, rfl, rfl⟩ rfl rfl rfl rfl rfl (by kernel_rfl) Try.func6 (by kernel_rfl)
    (of_decide_eq_true (by kernel_rfl)) (by unfold Func.isWrapper; first | (rw [if_pos (by decide +kernel)]; kernel_rfl) | (rw [if_neg (by decide +kernel)]; exact ⟨rfl, rfl⟩))
    (fun os started H enc _ F => lifted os started H enc F)
theorem proved : Rows.HelperKnownUptoSaid := over
end Go.Proofs.Ytidofnpfeibbfaa.helperKnown
namespace Go.Proofs.Ytidofnpfeibbfaa
theorem helperKnown_holds : Rows.HelperKnownUptoSaid := helperKnown.proved
#print axioms helperKnown_holds
end Go.Proofs.Ytidofnpfeibbfaa
