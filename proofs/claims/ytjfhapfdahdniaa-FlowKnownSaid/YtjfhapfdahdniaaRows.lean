/-
  No cell of these rows narrows 'for every input' (looked for: loops, veiled, ifaces, maps, wideKeys, modest, calm, conditions, laid).
  DERIVED. THE GIVEN ROWS OF THIS SEAT. 5 by the template 'for every input the law returns true; each argument reads behind the call as it read before'; 0 by the template 'total and deterministic' (their statements: YtjfhapfdahdniaaTotals.lean).
  GIVEN WITH THE SEED: the statements are not yours to turn. If you find one false, say at which input.
  Laid BY PROGRAM, IN A SANDBOX (cutbox-rows.mjs): the forced cells as the released guide's own fill.sh prints them over the translation 5962b1ef393abbae… (all of the seat's roots in one cut). By AI agents, Wed Nov 11 2026. No macro, syntax, notation, axiom, sorry.
-/
import Derived.Test.YtjfhapfdahdniaaChecked
import GoSem.Claim
import GoSem.ClaimJoined
import GoSem.ClaimMapViews
import Derived.JoinedTies
import Derived.KernelRfl
namespace Go.Proofs.Ytjfhapfdahdniaa
/- THE CELL 'sum', in the pinned program and in every row, IS THE sha256 OF THE DUMP (.gsa) THAT YtjfhapfdahdniaaProg.lean LOADS. Nothing in Lean hashes anything: it is a label: what it is worth is what the hold of that sum in a sandbox is worth. -/
noncomputable def Try.pinned : Pinned := { name := "ytjfhapfdahdniaa", sum := "5962b1ef393abbae8e55b2b4541cf502422650d4a1a3302c42a979b237d349c8", checked := Try.checked }
namespace Rows
def none {H : Type} : Left H := { results := [], args := [] }

/-- 'sallyportlaw14.FlowNexts': WHATEVER THE INPUT: true; the input reads as it did. -/
def flowNextsSpec : ChangeSpec := { name := "flowNexts", fn := fun _ => fun
  | [d1, d2] => { results := [.lit (.bool true)], args := [d1, d2] }
  | _ => none }
def flowNextsRow : OpenClaim := { program := "ytjfhapfdahdniaa", sum := "5962b1ef393abbae8e55b2b4541cf502422650d4a1a3302c42a979b237d349c8", func := "sallyport/sallyportlaw14.FlowNexts", spec := "flowNexts", apart := false }
def FlowNextsSaid : Prop := flowNextsRow.holds Try.pinned (OpenSpec.ofChange flowNextsSpec)

/-- ITS FALSE NEIGHBOUR: 'it returns false'. Refute it at one input. -/
def flowNextsWrong : ChangeSpec := { name := "flowNexts", fn := fun _ => fun
  | [d1, d2] => { results := [.lit (.bool false)], args := [d1, d2] }
  | _ => none }
def FlowNextsWrongFalsely : Prop := flowNextsRow.holds Try.pinned (OpenSpec.ofChange flowNextsWrong)

/-- 'sallyportlaw14.FlowEnds': WHATEVER THE INPUT: true; the input reads as it did. -/
def flowEndsSpec : ChangeSpec := { name := "flowEnds", fn := fun _ => fun
  | [d1, d2] => { results := [.lit (.bool true)], args := [d1, d2] }
  | _ => none }
def flowEndsRow : OpenClaim := { program := "ytjfhapfdahdniaa", sum := "5962b1ef393abbae8e55b2b4541cf502422650d4a1a3302c42a979b237d349c8", func := "sallyport/sallyportlaw14.FlowEnds", spec := "flowEnds", apart := false }
def FlowEndsSaid : Prop := flowEndsRow.holds Try.pinned (OpenSpec.ofChange flowEndsSpec)

/-- ITS FALSE NEIGHBOUR: 'it returns false'. Refute it at one input. -/
def flowEndsWrong : ChangeSpec := { name := "flowEnds", fn := fun _ => fun
  | [d1, d2] => { results := [.lit (.bool false)], args := [d1, d2] }
  | _ => none }
def FlowEndsWrongFalsely : Prop := flowEndsRow.holds Try.pinned (OpenSpec.ofChange flowEndsWrong)

/-- 'sallyportlaw14.FlowLoops': WHATEVER THE INPUT: true; the input reads as it did. -/
def flowLoopsSpec : ChangeSpec := { name := "flowLoops", fn := fun _ => fun
  | [d] => { results := [.lit (.bool true)], args := [d] }
  | _ => none }
def flowLoopsRow : OpenClaim := { program := "ytjfhapfdahdniaa", sum := "5962b1ef393abbae8e55b2b4541cf502422650d4a1a3302c42a979b237d349c8", func := "sallyport/sallyportlaw14.FlowLoops", spec := "flowLoops", apart := false }
def FlowLoopsSaid : Prop := flowLoopsRow.holds Try.pinned (OpenSpec.ofChange flowLoopsSpec)

/-- ITS FALSE NEIGHBOUR: 'it returns false'. Refute it at one input. -/
def flowLoopsWrong : ChangeSpec := { name := "flowLoops", fn := fun _ => fun
  | [d] => { results := [.lit (.bool false)], args := [d] }
  | _ => none }
def FlowLoopsWrongFalsely : Prop := flowLoopsRow.holds Try.pinned (OpenSpec.ofChange flowLoopsWrong)

/-- 'sallyportlaw14.FlowForward': WHATEVER THE INPUT: true; the input reads as it did. -/
def flowForwardSpec : ChangeSpec := { name := "flowForward", fn := fun _ => fun
  | [d] => { results := [.lit (.bool true)], args := [d] }
  | _ => none }
def flowForwardRow : OpenClaim := { program := "ytjfhapfdahdniaa", sum := "5962b1ef393abbae8e55b2b4541cf502422650d4a1a3302c42a979b237d349c8", func := "sallyport/sallyportlaw14.FlowForward", spec := "flowForward", apart := false }
def FlowForwardSaid : Prop := flowForwardRow.holds Try.pinned (OpenSpec.ofChange flowForwardSpec)

/-- ITS FALSE NEIGHBOUR: 'it returns false'. Refute it at one input. -/
def flowForwardWrong : ChangeSpec := { name := "flowForward", fn := fun _ => fun
  | [d] => { results := [.lit (.bool false)], args := [d] }
  | _ => none }
def FlowForwardWrongFalsely : Prop := flowForwardRow.holds Try.pinned (OpenSpec.ofChange flowForwardWrong)

/-- 'sallyportlaw14.FlowKnown': WHATEVER THE INPUT: true; the input reads as it did. -/
def flowKnownSpec : ChangeSpec := { name := "flowKnown", fn := fun _ => fun
  | [] => { results := [.lit (.bool true)], args := [] }
  | _ => none }
def flowKnownRow : OpenClaim := { program := "ytjfhapfdahdniaa", sum := "5962b1ef393abbae8e55b2b4541cf502422650d4a1a3302c42a979b237d349c8", func := "sallyport/sallyportlaw14.FlowKnown", spec := "flowKnown", apart := false }
def FlowKnownSaid : Prop := flowKnownRow.holds Try.pinned (OpenSpec.ofChange flowKnownSpec)

/-- ITS FALSE NEIGHBOUR: 'it returns false'. Refute it at one input. -/
def flowKnownWrong : ChangeSpec := { name := "flowKnown", fn := fun _ => fun
  | [] => { results := [.lit (.bool false)], args := [] }
  | _ => none }
def FlowKnownWrongFalsely : Prop := flowKnownRow.holds Try.pinned (OpenSpec.ofChange flowKnownWrong)

/- THE SECOND FORM. 'bulk': how many values and letters a reading holds, each counted each time it is reached (what is shared counts as often as it is met; a slice's spare places count too). A statement '..UptoSaid' is the law's where the arguments, and the package variables that the reading takes, are together of bulk at most 1048576: NARROWER than '..Said'. Prove '..Said' where nothing that the law and all that it calls make is longer than what came in: it says more and counts as full. Else prove '..UptoSaid'. A law counts once. -/
mutual
def uptoBulk {H : Type} : DataW H → Nat
  | .lit (.string bytes) => bytes.length + 1
  | .lit _ => 1
  | .nil => 1
  | .ptr d => uptoBulk d + 1
  | .slice elems spare => uptoBulkAll elems + uptoBulkAll spare + 1
  | .agg parts => uptoBulkAll parts + 1
  | .iface _ d => uptoBulk d + 1
  | .map entries => uptoBulkEntries entries + 1
  | .held _ => 1
def uptoBulkAll {H : Type} : List (DataW H) → Nat
  | [] => 0
  | d :: r => uptoBulk d + uptoBulkAll r
def uptoBulkEntries {H : Type} : List (Lit × DataW H) → Nat
  | [] => 0
  | x :: r => uptoBulkEntry x + uptoBulkEntries r
def uptoBulkEntry {H : Type} : Lit × DataW H → Nat
  | (.string bytes, d) => bytes.length + uptoBulk d + 1
  | (_, d) => uptoBulk d + 1
 end
def uptoSmall : (H : Type) → List (DataW H) → Bool := fun _ ds => decide (uptoBulkAll ds ≤ 1048576)
def OpenSpec.upto (s : _root_.Go.ChangeSpec) : _root_.Go.OpenSpec := { _root_.Go.OpenSpec.ofChange s with cond := some uptoSmall }

/-- 'sallyportlaw14.FlowNexts', WHERE WHAT IT READS IS OF BULK AT MOST 1048576: true; the input reads as it did. -/
def flowNextsUptoRow : OpenClaim := { program := "ytjfhapfdahdniaa", sum := "5962b1ef393abbae8e55b2b4541cf502422650d4a1a3302c42a979b237d349c8", func := "sallyport/sallyportlaw14.FlowNexts", spec := "flowNexts", apart := false, narrowed := true }
def FlowNextsUptoSaid : Prop := flowNextsUptoRow.holds Try.pinned (OpenSpec.upto flowNextsSpec)

/-- 'sallyportlaw14.FlowEnds', WHERE WHAT IT READS IS OF BULK AT MOST 1048576: true; the input reads as it did. -/
def flowEndsUptoRow : OpenClaim := { program := "ytjfhapfdahdniaa", sum := "5962b1ef393abbae8e55b2b4541cf502422650d4a1a3302c42a979b237d349c8", func := "sallyport/sallyportlaw14.FlowEnds", spec := "flowEnds", apart := false, narrowed := true }
def FlowEndsUptoSaid : Prop := flowEndsUptoRow.holds Try.pinned (OpenSpec.upto flowEndsSpec)

/-- 'sallyportlaw14.FlowLoops', WHERE WHAT IT READS IS OF BULK AT MOST 1048576: true; the input reads as it did. -/
def flowLoopsUptoRow : OpenClaim := { program := "ytjfhapfdahdniaa", sum := "5962b1ef393abbae8e55b2b4541cf502422650d4a1a3302c42a979b237d349c8", func := "sallyport/sallyportlaw14.FlowLoops", spec := "flowLoops", apart := false, narrowed := true }
def FlowLoopsUptoSaid : Prop := flowLoopsUptoRow.holds Try.pinned (OpenSpec.upto flowLoopsSpec)

/-- 'sallyportlaw14.FlowForward', WHERE WHAT IT READS IS OF BULK AT MOST 1048576: true; the input reads as it did. -/
def flowForwardUptoRow : OpenClaim := { program := "ytjfhapfdahdniaa", sum := "5962b1ef393abbae8e55b2b4541cf502422650d4a1a3302c42a979b237d349c8", func := "sallyport/sallyportlaw14.FlowForward", spec := "flowForward", apart := false, narrowed := true }
def FlowForwardUptoSaid : Prop := flowForwardUptoRow.holds Try.pinned (OpenSpec.upto flowForwardSpec)

/-- 'sallyportlaw14.FlowKnown', WHERE WHAT IT READS IS OF BULK AT MOST 1048576: true; the input reads as it did. -/
def flowKnownUptoRow : OpenClaim := { program := "ytjfhapfdahdniaa", sum := "5962b1ef393abbae8e55b2b4541cf502422650d4a1a3302c42a979b237d349c8", func := "sallyport/sallyportlaw14.FlowKnown", spec := "flowKnown", apart := false, narrowed := true }
def FlowKnownUptoSaid : Prop := flowKnownUptoRow.holds Try.pinned (OpenSpec.upto flowKnownSpec)

end Rows
end Go.Proofs.Ytjfhapfdahdniaa
