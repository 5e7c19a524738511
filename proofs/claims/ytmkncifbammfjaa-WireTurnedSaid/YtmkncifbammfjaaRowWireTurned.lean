import Derived.Test.YtmkncifbammfjaaRows
import Derived.Test.YtmkncifbammfjaaW4
namespace Go.Proofs.Ytmkncifbammfjaa.wireTurned
open Go.ChangeShapes Go.WideShapes Go.ChangeAt Go.RowKit Go.Abs
set_option linter.unusedVariables false
set_option linter.unusedSimpArgs false
set_option linter.unnecessarySimpa false
theorem own : ownKnob Try.prog.godebug = none := by kernel_rfl
theorem laidOut : laidOutB Try.prog = true := by kernel_rfl
theorem rows : argsOf Try.prog 20 Try.f6.params.toList = some [(true, [.sl 12 [.int .u8, .int .u8, .int .u8, .int .i16, .int .i32], .sl 24 [.sl 16 [.int .u64, .int .u64]]]), (false, [.int .i64]), (false, [.int .u8])] := by kernel_rfl
set_option maxRecDepth 100000 in
theorem lifted (os : Os) (started : os.Started) (H : Type) (enc : TypeId × Value → H) :
    ReturnsInHanded {} Try.checked os 6 .any (Rows.wireTurnedSpec.pre6 enc Try.prog Try.f6 Rows.wireTurnedRow.domain false) (Rows.wireTurnedSpec.post enc Try.prog Try.f6 false true false false) := by
  refine returnsInHanded_of_change_sized (C := Try.checked) own started (by kernel_rfl) Try.func6
    (ChangeSpec.witness6 (enc := enc) (C := Try.checked) false ⟨#[], #[.agg #[.slice none 0 0, .slice none 0 0], .int .i64 0, .int .u8 0], []⟩ 8 (by kernel_rfl) (by kernel_rfl) (by kernel_rfl) (by kernel_rfl)) ?_
  intro W base args ds gs before hval0 hW hcnd hsz0 _
  have hW' := hW
  obtain ⟨p, q, hA, hV, rfl, hfz, hnd⟩ := hW
  have hval : ∀ (j : Nat) t v, Try.f6.params.toList[j]? = some t → args.toList[j]? = some v → Value.okWide Try.prog W .any base t v := by
    intro j t v h1 h2
    exact hval0 j t v (by simpa using h1) (by simpa using h2)
  have hcall := law_calls (P := Try.prog) (f := 6) M.C_ok hA rows hval hsz0 M.WireTurned_law
  have hshape : ∃ d0 d1 d2, ds = [d0, d1, d2] := by
    have hA1 := hA
    rw [Try.params6] at hA1
    obtain ⟨v0, vs0, d0, ds0, p0, q0, -, rfl, -, -, r0⟩ := trodAll_cons hA1
    obtain ⟨v1, vs1, d1, ds1, p1, q1, -, rfl, -, -, r1⟩ := trodAll_cons r0
    obtain ⟨v2, vs2, d2, ds2, p2, q2, -, rfl, -, -, r2⟩ := trodAll_cons r1
    obtain ⟨-, rfl, -⟩ := trodAll_nil r2
    exact ⟨d0, d1, d2, rfl⟩
  obtain ⟨d0, d1, d2, rfl⟩ := hshape
  obtain ⟨rfl, rfl⟩ := trodVars_none hV
  rw [Array.toArray_toList] at hcall
  refine hcall.mono fun e W' ⟨he, bel⟩ => ?_
  subst he
  exact ⟨_, rfl, _, _, _, [], _, [], hW', trodAll_mk1 (shut_bool Try.underlying4 _), trodAll_again laidOut bel (by kernel_rfl) hA, rfl, bel.frame _, fun h => by cases h⟩
theorem over : Rows.wireTurnedRow.holds Try.pinned (OpenSpec.ofChange Rows.wireTurnedSpec) :=
  OpenClaim.holds_of_wide 6 Try.f6 rfl rfl rfl rfl rfl rfl rfl ⟨rfl, rfl, rfl, rfl, rfl⟩ rfl rfl rfl rfl rfl (by kernel_rfl) Try.func6 (by kernel_rfl)
    (of_decide_eq_true (by kernel_rfl)) (by unfold Func.isWrapper; first | (rw [if_pos (by decide +kernel)]; kernel_rfl) | (rw [if_neg (by decide +kernel)]; exact ⟨rfl, rfl⟩))
    (fun os started H enc _ => lifted os started H enc)
theorem proved : Rows.WireTurnedSaid := over
end Go.Proofs.Ytmkncifbammfjaa.wireTurned
namespace Go.Proofs.Ytmkncifbammfjaa
theorem wireTurned_holds : Rows.WireTurnedSaid := wireTurned.proved
#print axioms wireTurned_holds
end Go.Proofs.Ytmkncifbammfjaa
