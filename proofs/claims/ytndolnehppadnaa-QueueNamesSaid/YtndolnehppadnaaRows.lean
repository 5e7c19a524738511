/-
  No cell of these rows narrows 'for every input' (looked for: loops, veiled, ifaces, maps, wideKeys, modest, calm, conditions, laid).
  DERIVED. THE GIVEN ROWS OF THIS SEAT. 8 by the template 'for every input the law returns true; each argument reads behind the call as it read before'; 0 by the template 'total and deterministic' (their statements: YtndolnehppadnaaTotals.lean).
  GIVEN WITH THE SEED: the statements are not yours to turn. If you find one false, say at which input.
  Laid BY PROGRAM, IN A SANDBOX (cutbox-rows.mjs): the forced cells as the released guide's own fill.sh prints them over the translation 932ca75c824995b0… (all of the seat's roots in one cut). By AI agents, Wed Nov 11 2026. No macro, syntax, notation, axiom, sorry.
-/
import Derived.Test.YtndolnehppadnaaChecked
import GoSem.Claim
import GoSem.ClaimJoined
import GoSem.ClaimMapViews
import Derived.JoinedTies
import Derived.KernelRfl
namespace Go.Proofs.Ytndolnehppadnaa
/- THE CELL 'sum', in the pinned program and in every row, IS THE sha256 OF THE DUMP (.gsa) THAT YtndolnehppadnaaProg.lean LOADS. Nothing in Lean hashes anything: it is a label: what it is worth is what the hold of that sum in a sandbox is worth. -/
noncomputable def Try.pinned : Pinned := { name := "ytndolnehppadnaa", sum := "932ca75c824995b081e1d6096e97b1742566674eee7deef677fc3b6721ecd3d8", checked := Try.checked }
namespace Rows
def none {H : Type} : Left H := { results := [], args := [] }

/-- 'sallyportlaw02.LeaseLends': WHATEVER THE INPUT: true; the input reads as it did. -/
def leaseLendsSpec : ChangeSpec := { name := "leaseLends", fn := fun _ => fun
  | [d1, d2] => { results := [.lit (.bool true)], args := [d1, d2] }
  | _ => none }
def leaseLendsRow : OpenClaim := { program := "ytndolnehppadnaa", sum := "932ca75c824995b081e1d6096e97b1742566674eee7deef677fc3b6721ecd3d8", func := "sallyport/sallyportlaw02.LeaseLends", spec := "leaseLends", apart := false }
def LeaseLendsSaid : Prop := leaseLendsRow.holds Try.pinned (OpenSpec.ofChange leaseLendsSpec)

/-- ITS FALSE NEIGHBOUR: 'it returns false'. Refute it at one input. -/
def leaseLendsWrong : ChangeSpec := { name := "leaseLends", fn := fun _ => fun
  | [d1, d2] => { results := [.lit (.bool false)], args := [d1, d2] }
  | _ => none }
def LeaseLendsWrongFalsely : Prop := leaseLendsRow.holds Try.pinned (OpenSpec.ofChange leaseLendsWrong)

/-- 'sallyportlaw02.LeaseBounds': WHATEVER THE INPUT: true; the input reads as it did. -/
def leaseBoundsSpec : ChangeSpec := { name := "leaseBounds", fn := fun _ => fun
  | [d1, d2, d3] => { results := [.lit (.bool true)], args := [d1, d2, d3] }
  | _ => none }
def leaseBoundsRow : OpenClaim := { program := "ytndolnehppadnaa", sum := "932ca75c824995b081e1d6096e97b1742566674eee7deef677fc3b6721ecd3d8", func := "sallyport/sallyportlaw02.LeaseBounds", spec := "leaseBounds", apart := false }
def LeaseBoundsSaid : Prop := leaseBoundsRow.holds Try.pinned (OpenSpec.ofChange leaseBoundsSpec)

/-- ITS FALSE NEIGHBOUR: 'it returns false'. Refute it at one input. -/
def leaseBoundsWrong : ChangeSpec := { name := "leaseBounds", fn := fun _ => fun
  | [d1, d2, d3] => { results := [.lit (.bool false)], args := [d1, d2, d3] }
  | _ => none }
def LeaseBoundsWrongFalsely : Prop := leaseBoundsRow.holds Try.pinned (OpenSpec.ofChange leaseBoundsWrong)

/-- 'sallyportlaw02.LeaseBooks': WHATEVER THE INPUT: true; the input reads as it did. -/
def leaseBooksSpec : ChangeSpec := { name := "leaseBooks", fn := fun _ => fun
  | [d1, d2] => { results := [.lit (.bool true)], args := [d1, d2] }
  | _ => none }
def leaseBooksRow : OpenClaim := { program := "ytndolnehppadnaa", sum := "932ca75c824995b081e1d6096e97b1742566674eee7deef677fc3b6721ecd3d8", func := "sallyport/sallyportlaw02.LeaseBooks", spec := "leaseBooks", apart := false }
def LeaseBooksSaid : Prop := leaseBooksRow.holds Try.pinned (OpenSpec.ofChange leaseBooksSpec)

/-- ITS FALSE NEIGHBOUR: 'it returns false'. Refute it at one input. -/
def leaseBooksWrong : ChangeSpec := { name := "leaseBooks", fn := fun _ => fun
  | [d1, d2] => { results := [.lit (.bool false)], args := [d1, d2] }
  | _ => none }
def LeaseBooksWrongFalsely : Prop := leaseBooksRow.holds Try.pinned (OpenSpec.ofChange leaseBooksWrong)

/-- 'sallyportlaw02.LeaseApart': WHATEVER THE INPUT: true; the input reads as it did. -/
def leaseApartSpec : ChangeSpec := { name := "leaseApart", fn := fun _ => fun
  | [d1, d2] => { results := [.lit (.bool true)], args := [d1, d2] }
  | _ => none }
def leaseApartRow : OpenClaim := { program := "ytndolnehppadnaa", sum := "932ca75c824995b081e1d6096e97b1742566674eee7deef677fc3b6721ecd3d8", func := "sallyport/sallyportlaw02.LeaseApart", spec := "leaseApart", apart := false }
def LeaseApartSaid : Prop := leaseApartRow.holds Try.pinned (OpenSpec.ofChange leaseApartSpec)

/-- ITS FALSE NEIGHBOUR: 'it returns false'. Refute it at one input. -/
def leaseApartWrong : ChangeSpec := { name := "leaseApart", fn := fun _ => fun
  | [d1, d2] => { results := [.lit (.bool false)], args := [d1, d2] }
  | _ => none }
def LeaseApartWrongFalsely : Prop := leaseApartRow.holds Try.pinned (OpenSpec.ofChange leaseApartWrong)

/-- 'sallyportlaw02.LeaseNames': WHATEVER THE INPUT: true; the input reads as it did. -/
def leaseNamesSpec : ChangeSpec := { name := "leaseNames", fn := fun _ => fun
  | [] => { results := [.lit (.bool true)], args := [] }
  | _ => none }
def leaseNamesRow : OpenClaim := { program := "ytndolnehppadnaa", sum := "932ca75c824995b081e1d6096e97b1742566674eee7deef677fc3b6721ecd3d8", func := "sallyport/sallyportlaw02.LeaseNames", spec := "leaseNames", apart := false }
def LeaseNamesSaid : Prop := leaseNamesRow.holds Try.pinned (OpenSpec.ofChange leaseNamesSpec)

/-- ITS FALSE NEIGHBOUR: 'it returns false'. Refute it at one input. -/
def leaseNamesWrong : ChangeSpec := { name := "leaseNames", fn := fun _ => fun
  | [] => { results := [.lit (.bool false)], args := [] }
  | _ => none }
def LeaseNamesWrongFalsely : Prop := leaseNamesRow.holds Try.pinned (OpenSpec.ofChange leaseNamesWrong)

/-- 'sallyportlaw26.QueuePlays': WHATEVER THE INPUT: true; the input reads as it did. -/
def queuePlaysSpec : ChangeSpec := { name := "queuePlays", fn := fun _ => fun
  | [d1, d2] => { results := [.lit (.bool true)], args := [d1, d2] }
  | _ => none }
def queuePlaysRow : OpenClaim := { program := "ytndolnehppadnaa", sum := "932ca75c824995b081e1d6096e97b1742566674eee7deef677fc3b6721ecd3d8", func := "sallyport/sallyportlaw26.QueuePlays", spec := "queuePlays", apart := false }
def QueuePlaysSaid : Prop := queuePlaysRow.holds Try.pinned (OpenSpec.ofChange queuePlaysSpec)

/-- ITS FALSE NEIGHBOUR: 'it returns false'. Refute it at one input. -/
def queuePlaysWrong : ChangeSpec := { name := "queuePlays", fn := fun _ => fun
  | [d1, d2] => { results := [.lit (.bool false)], args := [d1, d2] }
  | _ => none }
def QueuePlaysWrongFalsely : Prop := queuePlaysRow.holds Try.pinned (OpenSpec.ofChange queuePlaysWrong)

/-- 'sallyportlaw26.QueueOrder': WHATEVER THE INPUT: true; the input reads as it did. -/
def queueOrderSpec : ChangeSpec := { name := "queueOrder", fn := fun _ => fun
  | [d1, d2] => { results := [.lit (.bool true)], args := [d1, d2] }
  | _ => none }
def queueOrderRow : OpenClaim := { program := "ytndolnehppadnaa", sum := "932ca75c824995b081e1d6096e97b1742566674eee7deef677fc3b6721ecd3d8", func := "sallyport/sallyportlaw26.QueueOrder", spec := "queueOrder", apart := false }
def QueueOrderSaid : Prop := queueOrderRow.holds Try.pinned (OpenSpec.ofChange queueOrderSpec)

/-- ITS FALSE NEIGHBOUR: 'it returns false'. Refute it at one input. -/
def queueOrderWrong : ChangeSpec := { name := "queueOrder", fn := fun _ => fun
  | [d1, d2] => { results := [.lit (.bool false)], args := [d1, d2] }
  | _ => none }
def QueueOrderWrongFalsely : Prop := queueOrderRow.holds Try.pinned (OpenSpec.ofChange queueOrderWrong)

/-- 'sallyportlaw26.QueueNames': WHATEVER THE INPUT: true; the input reads as it did. -/
def queueNamesSpec : ChangeSpec := { name := "queueNames", fn := fun _ => fun
  | [] => { results := [.lit (.bool true)], args := [] }
  | _ => none }
def queueNamesRow : OpenClaim := { program := "ytndolnehppadnaa", sum := "932ca75c824995b081e1d6096e97b1742566674eee7deef677fc3b6721ecd3d8", func := "sallyport/sallyportlaw26.QueueNames", spec := "queueNames", apart := false }
def QueueNamesSaid : Prop := queueNamesRow.holds Try.pinned (OpenSpec.ofChange queueNamesSpec)

/-- ITS FALSE NEIGHBOUR: 'it returns false'. Refute it at one input. -/
def queueNamesWrong : ChangeSpec := { name := "queueNames", fn := fun _ => fun
  | [] => { results := [.lit (.bool false)], args := [] }
  | _ => none }
def QueueNamesWrongFalsely : Prop := queueNamesRow.holds Try.pinned (OpenSpec.ofChange queueNamesWrong)

/- THE SECOND FORM. 'bulk': how many values and letters a reading holds, each counted each time it is reached (what is shared counts as often as it is met; a slice's spare places count too). A statement '..UptoSaid' is the law's where the arguments, and the package variables that the reading takes, are together of bulk at most 1048576: NARROWER than '..Said'. Prove '..Said' where nothing that the law and all that it calls make is longer than what came in: it says more and counts as full. Else prove '..UptoSaid'. A law counts once. -/
mutual
def uptoBulk {H : Type} : DataW H → Nat
  | .lit (.string bytes) => bytes.length + 1
  | .lit _ => 1
  | .nil => 1
  | .ptr d => uptoBulk d + 1
  | .slice elems spare => uptoBulkAll elems + uptoBulkAll spare + 1
  | .agg parts => uptoBulkAll parts + 1
  | .iface _ d => uptoBulk d + 1
  | .map entries => uptoBulkEntries entries + 1
  | .held _ => 1
def uptoBulkAll {H : Type} : List (DataW H) → Nat
  | [] => 0
  | d :: r => uptoBulk d + uptoBulkAll r
def uptoBulkEntries {H : Type} : List (Lit × DataW H) → Nat
  | [] => 0
  | x :: r => uptoBulkEntry x + uptoBulkEntries r
def uptoBulkEntry {H : Type} : Lit × DataW H → Nat
  | (.string bytes, d) => bytes.length + uptoBulk d + 1
  | (_, d) => uptoBulk d + 1
 end
def uptoSmall : (H : Type) → List (DataW H) → Bool := fun _ ds => decide (uptoBulkAll ds ≤ 1048576)
def OpenSpec.upto (s : _root_.Go.ChangeSpec) : _root_.Go.OpenSpec := { _root_.Go.OpenSpec.ofChange s with cond := some uptoSmall }

/-- 'sallyportlaw02.LeaseLends', WHERE WHAT IT READS IS OF BULK AT MOST 1048576: true; the input reads as it did. -/
def leaseLendsUptoRow : OpenClaim := { program := "ytndolnehppadnaa", sum := "932ca75c824995b081e1d6096e97b1742566674eee7deef677fc3b6721ecd3d8", func := "sallyport/sallyportlaw02.LeaseLends", spec := "leaseLends", apart := false, narrowed := true }
def LeaseLendsUptoSaid : Prop := leaseLendsUptoRow.holds Try.pinned (OpenSpec.upto leaseLendsSpec)

/-- 'sallyportlaw02.LeaseBounds', WHERE WHAT IT READS IS OF BULK AT MOST 1048576: true; the input reads as it did. -/
def leaseBoundsUptoRow : OpenClaim := { program := "ytndolnehppadnaa", sum := "932ca75c824995b081e1d6096e97b1742566674eee7deef677fc3b6721ecd3d8", func := "sallyport/sallyportlaw02.LeaseBounds", spec := "leaseBounds", apart := false, narrowed := true }
def LeaseBoundsUptoSaid : Prop := leaseBoundsUptoRow.holds Try.pinned (OpenSpec.upto leaseBoundsSpec)

/-- 'sallyportlaw02.LeaseBooks', WHERE WHAT IT READS IS OF BULK AT MOST 1048576: true; the input reads as it did. -/
def leaseBooksUptoRow : OpenClaim := { program := "ytndolnehppadnaa", sum := "932ca75c824995b081e1d6096e97b1742566674eee7deef677fc3b6721ecd3d8", func := "sallyport/sallyportlaw02.LeaseBooks", spec := "leaseBooks", apart := false, narrowed := true }
def LeaseBooksUptoSaid : Prop := leaseBooksUptoRow.holds Try.pinned (OpenSpec.upto leaseBooksSpec)

/-- 'sallyportlaw02.LeaseApart', WHERE WHAT IT READS IS OF BULK AT MOST 1048576: true; the input reads as it did. -/
def leaseApartUptoRow : OpenClaim := { program := "ytndolnehppadnaa", sum := "932ca75c824995b081e1d6096e97b1742566674eee7deef677fc3b6721ecd3d8", func := "sallyport/sallyportlaw02.LeaseApart", spec := "leaseApart", apart := false, narrowed := true }
def LeaseApartUptoSaid : Prop := leaseApartUptoRow.holds Try.pinned (OpenSpec.upto leaseApartSpec)

/-- 'sallyportlaw02.LeaseNames', WHERE WHAT IT READS IS OF BULK AT MOST 1048576: true; the input reads as it did. -/
def leaseNamesUptoRow : OpenClaim := { program := "ytndolnehppadnaa", sum := "932ca75c824995b081e1d6096e97b1742566674eee7deef677fc3b6721ecd3d8", func := "sallyport/sallyportlaw02.LeaseNames", spec := "leaseNames", apart := false, narrowed := true }
def LeaseNamesUptoSaid : Prop := leaseNamesUptoRow.holds Try.pinned (OpenSpec.upto leaseNamesSpec)

/-- 'sallyportlaw26.QueuePlays', WHERE WHAT IT READS IS OF BULK AT MOST 1048576: true; the input reads as it did. -/
def queuePlaysUptoRow : OpenClaim := { program := "ytndolnehppadnaa", sum := "932ca75c824995b081e1d6096e97b1742566674eee7deef677fc3b6721ecd3d8", func := "sallyport/sallyportlaw26.QueuePlays", spec := "queuePlays", apart := false, narrowed := true }
def QueuePlaysUptoSaid : Prop := queuePlaysUptoRow.holds Try.pinned (OpenSpec.upto queuePlaysSpec)

/-- 'sallyportlaw26.QueueOrder', WHERE WHAT IT READS IS OF BULK AT MOST 1048576: true; the input reads as it did. -/
def queueOrderUptoRow : OpenClaim := { program := "ytndolnehppadnaa", sum := "932ca75c824995b081e1d6096e97b1742566674eee7deef677fc3b6721ecd3d8", func := "sallyport/sallyportlaw26.QueueOrder", spec := "queueOrder", apart := false, narrowed := true }
def QueueOrderUptoSaid : Prop := queueOrderUptoRow.holds Try.pinned (OpenSpec.upto queueOrderSpec)

/-- 'sallyportlaw26.QueueNames', WHERE WHAT IT READS IS OF BULK AT MOST 1048576: true; the input reads as it did. -/
def queueNamesUptoRow : OpenClaim := { program := "ytndolnehppadnaa", sum := "932ca75c824995b081e1d6096e97b1742566674eee7deef677fc3b6721ecd3d8", func := "sallyport/sallyportlaw26.QueueNames", spec := "queueNames", apart := false, narrowed := true }
def QueueNamesUptoSaid : Prop := queueNamesUptoRow.holds Try.pinned (OpenSpec.upto queueNamesSpec)

end Rows
end Go.Proofs.Ytndolnehppadnaa
