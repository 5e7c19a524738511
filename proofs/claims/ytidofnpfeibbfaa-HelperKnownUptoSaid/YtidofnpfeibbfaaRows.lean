/-
  No cell of these rows narrows 'for every input' (looked for: loops, veiled, ifaces, maps, wideKeys, modest, calm, conditions, laid).
  DERIVED. THE GIVEN ROWS OF THIS SEAT. 5 by the template 'for every input the law returns true; each argument reads behind the call as it read before'; 0 by the template 'total and deterministic' (their statements: YtidofnpfeibbfaaTotals.lean).
  GIVEN WITH THE SEED: the statements are not yours to turn. If you find one false, say at which input.
  Laid BY PROGRAM, IN A SANDBOX (cutbox-rows.mjs): the forced cells as the released guide's own fill.sh prints them over the translation f18ac8289f708336… (all of the seat's roots in one cut). By AI agents, Wed Nov 11 2026. No macro, syntax, notation, axiom, sorry.
-/
import Derived.Test.YtidofnpfeibbfaaChecked
import GoSem.Claim
import GoSem.ClaimJoined
import GoSem.ClaimMapViews
import Derived.JoinedTies
import Derived.KernelRfl
namespace Go.Proofs.Ytidofnpfeibbfaa
/- THE CELL 'sum', in the pinned program and in every row, IS THE sha256 OF THE DUMP (.gsa) THAT YtidofnpfeibbfaaProg.lean LOADS. Nothing in Lean hashes anything: it is a label: what it is worth is what the hold of that sum in a sandbox is worth. -/
noncomputable def Try.pinned : Pinned := { name := "ytidofnpfeibbfaa", sum := "f18ac8289f70833650812c858eff0d59940d6bbbcfe388f93b45b0f2e980d044", checked := Try.checked }
namespace Rows
def none {H : Type} : Left H := { results := [], args := [] }

/-- 'sallyportlaw24.HelperTells': WHATEVER THE INPUT: true; the input reads as it did. -/
def helperTellsSpec : ChangeSpec := { name := "helperTells", fn := fun _ => fun
  | [d] => { results := [.lit (.bool true)], args := [d] }
  | _ => none }
def helperTellsRow : OpenClaim := { program := "ytidofnpfeibbfaa", sum := "f18ac8289f70833650812c858eff0d59940d6bbbcfe388f93b45b0f2e980d044", func := "sallyport/sallyportlaw24.HelperTells", spec := "helperTells", unfollowed := true, recurses := true, apart := false }
def HelperTellsSaid : Prop := helperTellsRow.holds Try.pinned (OpenSpec.ofChange helperTellsSpec)

/-- ITS FALSE NEIGHBOUR: 'it returns false'. Refute it at one input. -/
def helperTellsWrong : ChangeSpec := { name := "helperTells", fn := fun _ => fun
  | [d] => { results := [.lit (.bool false)], args := [d] }
  | _ => none }
def HelperTellsWrongFalsely : Prop := helperTellsRow.holds Try.pinned (OpenSpec.ofChange helperTellsWrong)

/-- 'sallyportlaw24.HelperSums': WHATEVER THE INPUT: true; the input reads as it did. -/
def helperSumsSpec : ChangeSpec := { name := "helperSums", fn := fun _ => fun
  | [d1, d2] => { results := [.lit (.bool true)], args := [d1, d2] }
  | _ => none }
def helperSumsRow : OpenClaim := { program := "ytidofnpfeibbfaa", sum := "f18ac8289f70833650812c858eff0d59940d6bbbcfe388f93b45b0f2e980d044", func := "sallyport/sallyportlaw24.HelperSums", spec := "helperSums", unfollowed := true, recurses := true, apart := false }
def HelperSumsSaid : Prop := helperSumsRow.holds Try.pinned (OpenSpec.ofChange helperSumsSpec)

/-- ITS FALSE NEIGHBOUR: 'it returns false'. Refute it at one input. -/
def helperSumsWrong : ChangeSpec := { name := "helperSums", fn := fun _ => fun
  | [d1, d2] => { results := [.lit (.bool false)], args := [d1, d2] }
  | _ => none }
def HelperSumsWrongFalsely : Prop := helperSumsRow.holds Try.pinned (OpenSpec.ofChange helperSumsWrong)

/-- 'sallyportlaw24.HelperCopies': WHATEVER THE INPUT: true; the input reads as it did. -/
def helperCopiesSpec : ChangeSpec := { name := "helperCopies", fn := fun _ => fun
  | [d1, d2, d3] => { results := [.lit (.bool true)], args := [d1, d2, d3] }
  | _ => none }
def helperCopiesRow : OpenClaim := { program := "ytidofnpfeibbfaa", sum := "f18ac8289f70833650812c858eff0d59940d6bbbcfe388f93b45b0f2e980d044", func := "sallyport/sallyportlaw24.HelperCopies", spec := "helperCopies", unfollowed := true, recurses := true, apart := false }
def HelperCopiesSaid : Prop := helperCopiesRow.holds Try.pinned (OpenSpec.ofChange helperCopiesSpec)

/-- ITS FALSE NEIGHBOUR: 'it returns false'. Refute it at one input. -/
def helperCopiesWrong : ChangeSpec := { name := "helperCopies", fn := fun _ => fun
  | [d1, d2, d3] => { results := [.lit (.bool false)], args := [d1, d2, d3] }
  | _ => none }
def HelperCopiesWrongFalsely : Prop := helperCopiesRow.holds Try.pinned (OpenSpec.ofChange helperCopiesWrong)

/-- 'sallyportlaw24.HelperKnown': WHATEVER THE INPUT: true; the input reads as it did. -/
def helperKnownSpec : ChangeSpec := { name := "helperKnown", fn := fun _ => fun
  | [] => { results := [.lit (.bool true)], args := [] }
  | _ => none }
def helperKnownRow : OpenClaim := { program := "ytidofnpfeibbfaa", sum := "f18ac8289f70833650812c858eff0d59940d6bbbcfe388f93b45b0f2e980d044", func := "sallyport/sallyportlaw24.HelperKnown", spec := "helperKnown", unfollowed := true, recurses := true, apart := false }
def HelperKnownSaid : Prop := helperKnownRow.holds Try.pinned (OpenSpec.ofChange helperKnownSpec)

/-- ITS FALSE NEIGHBOUR: 'it returns false'. Refute it at one input. -/
def helperKnownWrong : ChangeSpec := { name := "helperKnown", fn := fun _ => fun
  | [] => { results := [.lit (.bool false)], args := [] }
  | _ => none }
def HelperKnownWrongFalsely : Prop := helperKnownRow.holds Try.pinned (OpenSpec.ofChange helperKnownWrong)

/-- 'sallyportlaw24.HelperPlain': WHATEVER THE INPUT: true; the input reads as it did. -/
def helperPlainSpec : ChangeSpec := { name := "helperPlain", fn := fun _ => fun
  | [d1, d2, d3] => { results := [.lit (.bool true)], args := [d1, d2, d3] }
  | _ => none }
def helperPlainRow : OpenClaim := { program := "ytidofnpfeibbfaa", sum := "f18ac8289f70833650812c858eff0d59940d6bbbcfe388f93b45b0f2e980d044", func := "sallyport/sallyportlaw24.HelperPlain", spec := "helperPlain", unfollowed := true, recurses := true, apart := false }
def HelperPlainSaid : Prop := helperPlainRow.holds Try.pinned (OpenSpec.ofChange helperPlainSpec)

/-- ITS FALSE NEIGHBOUR: 'it returns false'. Refute it at one input. -/
def helperPlainWrong : ChangeSpec := { name := "helperPlain", fn := fun _ => fun
  | [d1, d2, d3] => { results := [.lit (.bool false)], args := [d1, d2, d3] }
  | _ => none }
def HelperPlainWrongFalsely : Prop := helperPlainRow.holds Try.pinned (OpenSpec.ofChange helperPlainWrong)

/- THE SECOND FORM. 'bulk': how many values and letters a reading holds, each counted each time it is reached (what is shared counts as often as it is met; a slice's spare places count too). A statement '..UptoSaid' is the law's where the arguments, and the package variables that the reading takes, are together of bulk at most 1048576: NARROWER than '..Said'. Prove '..Said' where nothing that the law and all that it calls make is longer than what came in: it says more and counts as full. Else prove '..UptoSaid'. A law counts once. -/
mutual
def uptoBulk {H : Type} : DataW H → Nat
  | .lit (.string bytes) => bytes.length + 1
  | .lit _ => 1
  | .nil => 1
  | .ptr d => uptoBulk d + 1
  | .slice elems spare => uptoBulkAll elems + uptoBulkAll spare + 1
  | .agg parts => uptoBulkAll parts + 1
  | .iface _ d => uptoBulk d + 1
  | .map entries => uptoBulkEntries entries + 1
  | .held _ => 1
def uptoBulkAll {H : Type} : List (DataW H) → Nat
  | [] => 0
  | d :: r => uptoBulk d + uptoBulkAll r
def uptoBulkEntries {H : Type} : List (Lit × DataW H) → Nat
  | [] => 0
  | x :: r => uptoBulkEntry x + uptoBulkEntries r
def uptoBulkEntry {H : Type} : Lit × DataW H → Nat
  | (.string bytes, d) => bytes.length + uptoBulk d + 1
  | (_, d) => uptoBulk d + 1
 end
def uptoSmall : (H : Type) → List (DataW H) → Bool := fun _ ds => decide (uptoBulkAll ds ≤ 1048576)
def OpenSpec.upto (s : _root_.Go.ChangeSpec) : _root_.Go.OpenSpec := { _root_.Go.OpenSpec.ofChange s with cond := some uptoSmall }

/-- 'sallyportlaw24.HelperTells', WHERE WHAT IT READS IS OF BULK AT MOST 1048576: true; the input reads as it did. -/
def helperTellsUptoRow : OpenClaim := { program := "ytidofnpfeibbfaa", sum := "f18ac8289f70833650812c858eff0d59940d6bbbcfe388f93b45b0f2e980d044", func := "sallyport/sallyportlaw24.HelperTells", spec := "helperTells", unfollowed := true, recurses := true, apart := false, narrowed := true }
def HelperTellsUptoSaid : Prop := helperTellsUptoRow.holds Try.pinned (OpenSpec.upto helperTellsSpec)

/-- 'sallyportlaw24.HelperSums', WHERE WHAT IT READS IS OF BULK AT MOST 1048576: true; the input reads as it did. -/
def helperSumsUptoRow : OpenClaim := { program := "ytidofnpfeibbfaa", sum := "f18ac8289f70833650812c858eff0d59940d6bbbcfe388f93b45b0f2e980d044", func := "sallyport/sallyportlaw24.HelperSums", spec := "helperSums", unfollowed := true, recurses := true, apart := false, narrowed := true }
def HelperSumsUptoSaid : Prop := helperSumsUptoRow.holds Try.pinned (OpenSpec.upto helperSumsSpec)

/-- 'sallyportlaw24.HelperCopies', WHERE WHAT IT READS IS OF BULK AT MOST 1048576: true; the input reads as it did. -/
def helperCopiesUptoRow : OpenClaim := { program := "ytidofnpfeibbfaa", sum := "f18ac8289f70833650812c858eff0d59940d6bbbcfe388f93b45b0f2e980d044", func := "sallyport/sallyportlaw24.HelperCopies", spec := "helperCopies", unfollowed := true, recurses := true, apart := false, narrowed := true }
def HelperCopiesUptoSaid : Prop := helperCopiesUptoRow.holds Try.pinned (OpenSpec.upto helperCopiesSpec)

/-- 'sallyportlaw24.HelperKnown', WHERE WHAT IT READS IS OF BULK AT MOST 1048576: true; the input reads as it did. -/
def helperKnownUptoRow : OpenClaim := { program := "ytidofnpfeibbfaa", sum := "f18ac8289f70833650812c858eff0d59940d6bbbcfe388f93b45b0f2e980d044", func := "sallyport/sallyportlaw24.HelperKnown", spec := "helperKnown", unfollowed := true, recurses := true, apart := false, narrowed := true }
def HelperKnownUptoSaid : Prop := helperKnownUptoRow.holds Try.pinned (OpenSpec.upto helperKnownSpec)

/-- 'sallyportlaw24.HelperPlain', WHERE WHAT IT READS IS OF BULK AT MOST 1048576: true; the input reads as it did. -/
def helperPlainUptoRow : OpenClaim := { program := "ytidofnpfeibbfaa", sum := "f18ac8289f70833650812c858eff0d59940d6bbbcfe388f93b45b0f2e980d044", func := "sallyport/sallyportlaw24.HelperPlain", spec := "helperPlain", unfollowed := true, recurses := true, apart := false, narrowed := true }
def HelperPlainUptoSaid : Prop := helperPlainUptoRow.holds Try.pinned (OpenSpec.upto helperPlainSpec)

end Rows
end Go.Proofs.Ytidofnpfeibbfaa
