import Derived.Test.YtjcakemgghfflaaRows
import Derived.Test.YtjcakemgghfflaaFKT
namespace Go.Proofs.Ytjcakemgghfflaa.foreignKnown
open Go.ChangeShapes Go.WideShapes Go.ChangeAt Go.RowKit Go.Abs
set_option linter.unusedVariables false
set_option linter.unusedSimpArgs false
set_option linter.unnecessarySimpa false
theorem own : ownKnob Try.prog.godebug = none := by kernel_rfl
theorem laidOut : laidOutB Try.prog = true := by kernel_rfl
theorem rows : argsOf Try.prog 20 Try.f6.params.toList = some [] := by kernel_rfl
set_option maxRecDepth 100000 in
theorem lifted (os : Os) (started : os.Started) (H : Type) (enc : TypeId × Value → H) :
    ReturnsInHanded {} Try.checked os 6 .any (Rows.foreignKnownSpec.pre6 enc Try.prog Try.f6 Rows.foreignKnownRow.domain false) (Rows.foreignKnownSpec.post enc Try.prog Try.f6 false true false false) := by
  refine returnsInHanded_of_change_sized (C := Try.checked) own started (by kernel_rfl) Try.func6
    (ChangeSpec.witness6 (enc := enc) (C := Try.checked) false ⟨#[], #[], []⟩ 8 (by kernel_rfl) (by kernel_rfl) (by kernel_rfl) (by kernel_rfl)) ?_
  intro W base args ds gs before hval0 hW hcnd hsz0 _
  have hW' := hW
  obtain ⟨p, q, hA, hV, rfl, hfz, hnd⟩ := hW
  have hval : ∀ (j : Nat) t v, Try.f6.params.toList[j]? = some t → args.toList[j]? = some v → Value.okWide Try.prog W .any base t v := by
    intro j t v h1 h2
    rw [Try.params6] at h1; simp at h1
  have hcall := law_calls (P := Try.prog) (f := 6) M.C_ok hA rows hval hsz0 M.ForeignKnown_law
  have hshape : ∃ (u : Unit), ds = [] := by
    have hA1 := hA
    rw [Try.params6] at hA1
    obtain ⟨-, h, -⟩ := trodAll_nil hA1
    exact ⟨(), h⟩
  obtain ⟨-, rfl⟩ := hshape
  obtain ⟨rfl, rfl⟩ := trodVars_none hV
  rw [Array.toArray_toList] at hcall
  refine hcall.mono fun e W' ⟨he, bel⟩ => ?_
  subst he
  exact ⟨_, rfl, _, _, _, [], _, [], hW', trodAll_mk1 (shut_bool Try.underlying4 _), trodAll_again laidOut bel (by kernel_rfl) hA, rfl, bel.frame _, fun h => by cases h⟩
theorem over : Rows.foreignKnownRow.holds Try.pinned (OpenSpec.ofChange Rows.foreignKnownSpec) :=
  OpenClaim.holds_of_wide 6 Try.f6 rfl rfl rfl rfl rfl rfl rfl ⟨rfl, rfl, rfl, rfl, rfl⟩ rfl rfl rfl rfl rfl (by kernel_rfl) Try.func6 (by kernel_rfl)
    (of_decide_eq_true (by kernel_rfl)) (by unfold Func.isWrapper; first | (rw [if_pos (by decide +kernel)]; kernel_rfl) | (rw [if_neg (by decide +kernel)]; exact ⟨rfl, rfl⟩))
    (fun os started H enc _ => lifted os started H enc)
theorem proved : Rows.ForeignKnownSaid := over
end Go.Proofs.Ytjcakemgghfflaa.foreignKnown
namespace Go.Proofs.Ytjcakemgghfflaa
theorem foreignKnown_holds : Rows.ForeignKnownSaid := foreignKnown.proved
#print axioms foreignKnown_holds
end Go.Proofs.Ytjcakemgghfflaa
