import Derived.Test.YtidofnpfeibbfaaRows
import Derived.JoinedCond
import Derived.Deep.CondSized
import Derived.Test.YtidofnpfeibbfaaHW
namespace Go.Proofs.Ytidofnpfeibbfaa.helperCopies
open Go.ChangeShapes Go.WideShapes Go.ChangeAt Go.RowKit Go.Abs
set_option linter.unusedVariables false
set_option linter.unusedSimpArgs false
set_option linter.unnecessarySimpa false
theorem own : ownKnob Try.prog.godebug = none := by kernel_rfl
theorem laidOut : laidOutB Try.prog = true := by kernel_rfl
theorem rows : argsOf Try.prog 20 Try.f5.params.toList = some [(false, [.sl 1 [.int .u8]]), (true, [.sl 24 [.sl 16 [.int .u64, .int .u64]], .sl 24 [.sl 40 [.int .u8, .int .i64, .sl 1 [.int .u8]]]]), (false, [.sl 56 [.int .i32, .int .u64, .int .u64, .int .u64, .int .u64, .int .u64, .bool]])] := by kernel_rfl
theorem one_bulk {H : Type} (d : DataW H) : 1 ≤ Rows.uptoBulk d := by
  cases d with
  | lit l => cases l <;> simp [Rows.uptoBulk]
  | nil => simp [Rows.uptoBulk]
  | ptr d => simp [Rows.uptoBulk]
  | slice elems spare => simp [Rows.uptoBulk]
  | agg parts => simp [Rows.uptoBulk]
  | iface t d => simp [Rows.uptoBulk]
  | map entries => simp [Rows.uptoBulk]
  | held h => simp [Rows.uptoBulk]
theorem length_bulk {H : Type} : ∀ l : List (DataW H), l.length ≤ Rows.uptoBulkAll l
  | [] => by simp
  | x :: r => by have := one_bulk x; have := length_bulk r; simp only [Rows.uptoBulkAll, List.length_cons]; omega
mutual
theorem lens_bulk {H : Type} (L : Nat) : ∀ d : DataW H, Rows.uptoBulk d ≤ L → lensLe L d
  | .slice elems spare, h => by
    simp only [Rows.uptoBulk] at h
    simp only [lensLe]
    exact ⟨by have := length_bulk elems; omega, lens_bulkL L elems (by omega)⟩
  | .agg parts, h => by
    simp only [Rows.uptoBulk] at h
    simp only [lensLe]
    exact lens_bulkL L parts (by omega)
  | .lit _, _ => by simp [lensLe]
  | .nil, _ => by simp [lensLe]
  | .ptr _, _ => by simp [lensLe]
  | .iface _ _, _ => by simp [lensLe]
  | .map _, _ => by simp [lensLe]
  | .held _, _ => by simp [lensLe]
theorem lens_bulkL {H : Type} (L : Nat) : ∀ ds : List (DataW H), Rows.uptoBulkAll ds ≤ L → lensLeL L ds
  | [], _ => by simp [lensLeL]
  | d :: ds, h => by
    simp only [Rows.uptoBulkAll] at h
    simp only [lensLeL]
    exact ⟨lens_bulk L d (by omega), lens_bulkL L ds (by omega)⟩
end
theorem small {H : Type} {ds : List (DataW H)} (h : Rows.uptoSmall H ds = true) : ∀ d ∈ ds, lensLe 1048576 d := by
  have h1 : Rows.uptoBulkAll ds ≤ 1048576 := of_decide_eq_true h
  exact lensLeL_iff.1 (lens_bulkL _ ds h1)
set_option maxRecDepth 100000 in
theorem lifted (os : Os) (started : os.Started) (H : Type) (enc : TypeId × Value → H) (F : Stop.Interp) :
    ReturnsInHanded {} Try.checked os 5 .any ((Rows.OpenSpec.upto Rows.helperCopiesSpec).pre6 enc Try.prog Try.f5 Rows.helperCopiesUptoRow.domain false) (((Rows.OpenSpec.upto Rows.helperCopiesSpec).at F).post enc Try.prog Try.f5 false true false false) := by
  refine returnsInHanded_of_cond_sized (C := Try.checked) (s := (Rows.OpenSpec.upto Rows.helperCopiesSpec)) (k := Rows.uptoSmall) rfl own started (by kernel_rfl) Try.func5
    (OpenSpec.witness (enc := enc) (C := Try.checked) (s := (Rows.OpenSpec.upto Rows.helperCopiesSpec)) (k := Rows.uptoSmall) rfl false ⟨#[], #[.slice none 0 0, .agg #[.slice none 0 0, .slice none 0 0], .slice none 0 0], []⟩ 8 (by kernel_rfl) (by kernel_rfl) (by kernel_rfl)
      (x := ([.nil, .agg [.nil, .nil], .nil], [], [])) (by kernel_rfl) rfl (by kernel_rfl)) ?_
  intro W base args ds gs before hval0 hW hcnd hkk hsz0 _
  have hW' := hW
  obtain ⟨p, q, hA, hV, rfl, hfz, hnd⟩ := hW
  have hval : ∀ (j : Nat) t v, Try.f5.params.toList[j]? = some t → args.toList[j]? = some v → Value.okWide Try.prog W .any base t v := by
    intro j t v h1 h2
    exact hval0 j t v (by simpa using h1) (by simpa using h2)
  have hcall := law_calls_q (P := Try.prog) (Q := (· = 1048576)) (f := 5) M.C_ok hA rows hval hsz0 (fun L hL d hd => by subst hL; exact small hkk d (by simp [hd])) M.HelperCopies_law
  have hshape : ∃ d0 d1 d2, ds = [d0, d1, d2] := by
    have hA1 := hA
    rw [Try.params5] at hA1
    obtain ⟨v0, vs0, d0, ds0, p0, q0, -, rfl, -, -, r0⟩ := trodAll_cons hA1
    obtain ⟨v1, vs1, d1, ds1, p1, q1, -, rfl, -, -, r1⟩ := trodAll_cons r0
    obtain ⟨v2, vs2, d2, ds2, p2, q2, -, rfl, -, -, r2⟩ := trodAll_cons r1
    obtain ⟨-, rfl, -⟩ := trodAll_nil r2
    exact ⟨d0, d1, d2, rfl⟩
  obtain ⟨d0, d1, d2, rfl⟩ := hshape
  obtain ⟨rfl, rfl⟩ := trodVars_none hV
  rw [Array.toArray_toList] at hcall
  refine hcall.mono fun e W' ⟨he, bel⟩ => ?_
  subst he
  exact ⟨_, rfl, _, _, _, [], _, [], hW', trodAll_mk1 (shut_bool Try.underlying4 _), trodAll_again laidOut bel (by kernel_rfl) hA, rfl, bel.frame _, fun h => by cases h⟩
theorem over : Rows.helperCopiesUptoRow.holds Try.pinned (Rows.OpenSpec.upto Rows.helperCopiesSpec) :=
  OpenClaim.holds_of_cond 5 Try.f5 rfl rfl rfl rfl rfl rfl rfl ⟨rfl, rfl, rfl, rfl, rfl⟩ rfl rfl rfl rfl rfl (by kernel_rfl) Try.func5 (by kernel_rfl)
    (of_decide_eq_true (by kernel_rfl)) (by unfold Func.isWrapper; first | (rw [if_pos (by decide +kernel)]; kernel_rfl) | (rw [if_neg (by decide +kernel)]; exact ⟨rfl, rfl⟩))
    (fun os started H enc _ F => lifted os started H enc F)
theorem proved : Rows.HelperCopiesUptoSaid := over
end Go.Proofs.Ytidofnpfeibbfaa.helperCopies
namespace Go.Proofs.Ytidofnpfeibbfaa
theorem helperCopies_holds : Rows.HelperCopiesUptoSaid := helperCopies.proved
#print axioms helperCopies_holds
end Go.Proofs.Ytidofnpfeibbfaa
