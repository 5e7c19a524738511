/-
  No cell of these rows narrows 'for every input' (looked for: loops, veiled, ifaces, maps, wideKeys, modest, calm, conditions, laid).
  DERIVED. THE GIVEN ROWS OF THIS SEAT. 4 by the template 'for every input the law returns true; each argument reads behind the call as it read before'; 0 by the template 'total and deterministic' (their statements: YtfdlmneofbcpnaaTotals.lean).
  GIVEN WITH THE SEED: the statements are not yours to turn. If you find one false, say at which input.
  Laid BY PROGRAM, IN A SANDBOX (cutbox-rows.mjs): the forced cells as the released guide's own fill.sh prints them over the translation 9cde2b2d79097496… (all of the seat's roots in one cut). By AI agents, Wed Nov 11 2026. No macro, syntax, notation, axiom, sorry.
-/
import Derived.Test.YtfdlmneofbcpnaaChecked
import GoSem.Claim
import GoSem.ClaimJoined
import GoSem.ClaimMapViews
import Derived.JoinedTies
import Derived.KernelRfl
namespace Go.Proofs.Ytfdlmneofbcpnaa
/- THE CELL 'sum', in the pinned program and in every row, IS THE sha256 OF THE DUMP (.gsa) THAT YtfdlmneofbcpnaaProg.lean LOADS. Nothing in Lean hashes anything: it is a label: what it is worth is what the hold of that sum in a sandbox is worth. -/
noncomputable def Try.pinned : Pinned := { name := "ytfdlmneofbcpnaa", sum := "9cde2b2d7909749653980f759df65ed72cf80681cc03ec8253aefc5f57667533", checked := Try.checked }
namespace Rows
def none {H : Type} : Left H := { results := [], args := [] }

/-- 'sallyportlaw04.ShareCounts': WHATEVER THE INPUT: true; the input reads as it did. -/
def shareCountsSpec : ChangeSpec := { name := "shareCounts", fn := fun _ => fun
  | [d1, d2] => { results := [.lit (.bool true)], args := [d1, d2] }
  | _ => none }
def shareCountsRow : OpenClaim := { program := "ytfdlmneofbcpnaa", sum := "9cde2b2d7909749653980f759df65ed72cf80681cc03ec8253aefc5f57667533", func := "sallyport/sallyportlaw04.ShareCounts", spec := "shareCounts", apart := false }
def ShareCountsSaid : Prop := shareCountsRow.holds Try.pinned (OpenSpec.ofChange shareCountsSpec)

/-- ITS FALSE NEIGHBOUR: 'it returns false'. Refute it at one input. -/
def shareCountsWrong : ChangeSpec := { name := "shareCounts", fn := fun _ => fun
  | [d1, d2] => { results := [.lit (.bool false)], args := [d1, d2] }
  | _ => none }
def ShareCountsWrongFalsely : Prop := shareCountsRow.holds Try.pinned (OpenSpec.ofChange shareCountsWrong)

/-- 'sallyportlaw04.ShareApart': WHATEVER THE INPUT: true; the input reads as it did. -/
def shareApartSpec : ChangeSpec := { name := "shareApart", fn := fun _ => fun
  | [d1, d2] => { results := [.lit (.bool true)], args := [d1, d2] }
  | _ => none }
def shareApartRow : OpenClaim := { program := "ytfdlmneofbcpnaa", sum := "9cde2b2d7909749653980f759df65ed72cf80681cc03ec8253aefc5f57667533", func := "sallyport/sallyportlaw04.ShareApart", spec := "shareApart", apart := false }
def ShareApartSaid : Prop := shareApartRow.holds Try.pinned (OpenSpec.ofChange shareApartSpec)

/-- ITS FALSE NEIGHBOUR: 'it returns false'. Refute it at one input. -/
def shareApartWrong : ChangeSpec := { name := "shareApart", fn := fun _ => fun
  | [d1, d2] => { results := [.lit (.bool false)], args := [d1, d2] }
  | _ => none }
def ShareApartWrongFalsely : Prop := shareApartRow.holds Try.pinned (OpenSpec.ofChange shareApartWrong)

/-- 'sallyportlaw04.SharePlays': WHATEVER THE INPUT: true; the input reads as it did. -/
def sharePlaysSpec : ChangeSpec := { name := "sharePlays", fn := fun _ => fun
  | [d1, d2] => { results := [.lit (.bool true)], args := [d1, d2] }
  | _ => none }
def sharePlaysRow : OpenClaim := { program := "ytfdlmneofbcpnaa", sum := "9cde2b2d7909749653980f759df65ed72cf80681cc03ec8253aefc5f57667533", func := "sallyport/sallyportlaw04.SharePlays", spec := "sharePlays", apart := false }
def SharePlaysSaid : Prop := sharePlaysRow.holds Try.pinned (OpenSpec.ofChange sharePlaysSpec)

/-- ITS FALSE NEIGHBOUR: 'it returns false'. Refute it at one input. -/
def sharePlaysWrong : ChangeSpec := { name := "sharePlays", fn := fun _ => fun
  | [d1, d2] => { results := [.lit (.bool false)], args := [d1, d2] }
  | _ => none }
def SharePlaysWrongFalsely : Prop := sharePlaysRow.holds Try.pinned (OpenSpec.ofChange sharePlaysWrong)

/-- 'sallyportlaw04.ShareNames': WHATEVER THE INPUT: true; the input reads as it did. -/
def shareNamesSpec : ChangeSpec := { name := "shareNames", fn := fun _ => fun
  | [] => { results := [.lit (.bool true)], args := [] }
  | _ => none }
def shareNamesRow : OpenClaim := { program := "ytfdlmneofbcpnaa", sum := "9cde2b2d7909749653980f759df65ed72cf80681cc03ec8253aefc5f57667533", func := "sallyport/sallyportlaw04.ShareNames", spec := "shareNames", apart := false }
def ShareNamesSaid : Prop := shareNamesRow.holds Try.pinned (OpenSpec.ofChange shareNamesSpec)

/-- ITS FALSE NEIGHBOUR: 'it returns false'. Refute it at one input. -/
def shareNamesWrong : ChangeSpec := { name := "shareNames", fn := fun _ => fun
  | [] => { results := [.lit (.bool false)], args := [] }
  | _ => none }
def ShareNamesWrongFalsely : Prop := shareNamesRow.holds Try.pinned (OpenSpec.ofChange shareNamesWrong)

/- THE SECOND FORM. 'bulk': how many values and letters a reading holds, each counted each time it is reached (what is shared counts as often as it is met; a slice's spare places count too). A statement '..UptoSaid' is the law's where the arguments, and the package variables that the reading takes, are together of bulk at most 1048576: NARROWER than '..Said'. Prove '..Said' where nothing that the law and all that it calls make is longer than what came in: it says more and counts as full. Else prove '..UptoSaid'. A law counts once. -/
mutual
def uptoBulk {H : Type} : DataW H → Nat
  | .lit (.string bytes) => bytes.length + 1
  | .lit _ => 1
  | .nil => 1
  | .ptr d => uptoBulk d + 1
  | .slice elems spare => uptoBulkAll elems + uptoBulkAll spare + 1
  | .agg parts => uptoBulkAll parts + 1
  | .iface _ d => uptoBulk d + 1
  | .map entries => uptoBulkEntries entries + 1
  | .held _ => 1
def uptoBulkAll {H : Type} : List (DataW H) → Nat
  | [] => 0
  | d :: r => uptoBulk d + uptoBulkAll r
def uptoBulkEntries {H : Type} : List (Lit × DataW H) → Nat
  | [] => 0
  | x :: r => uptoBulkEntry x + uptoBulkEntries r
def uptoBulkEntry {H : Type} : Lit × DataW H → Nat
  | (.string bytes, d) => bytes.length + uptoBulk d + 1
  | (_, d) => uptoBulk d + 1
 end
def uptoSmall : (H : Type) → List (DataW H) → Bool := fun _ ds => decide (uptoBulkAll ds ≤ 1048576)
def OpenSpec.upto (s : _root_.Go.ChangeSpec) : _root_.Go.OpenSpec := { _root_.Go.OpenSpec.ofChange s with cond := some uptoSmall }

/-- 'sallyportlaw04.ShareCounts', WHERE WHAT IT READS IS OF BULK AT MOST 1048576: true; the input reads as it did. -/
def shareCountsUptoRow : OpenClaim := { program := "ytfdlmneofbcpnaa", sum := "9cde2b2d7909749653980f759df65ed72cf80681cc03ec8253aefc5f57667533", func := "sallyport/sallyportlaw04.ShareCounts", spec := "shareCounts", apart := false, narrowed := true }
def ShareCountsUptoSaid : Prop := shareCountsUptoRow.holds Try.pinned (OpenSpec.upto shareCountsSpec)

/-- 'sallyportlaw04.ShareApart', WHERE WHAT IT READS IS OF BULK AT MOST 1048576: true; the input reads as it did. -/
def shareApartUptoRow : OpenClaim := { program := "ytfdlmneofbcpnaa", sum := "9cde2b2d7909749653980f759df65ed72cf80681cc03ec8253aefc5f57667533", func := "sallyport/sallyportlaw04.ShareApart", spec := "shareApart", apart := false, narrowed := true }
def ShareApartUptoSaid : Prop := shareApartUptoRow.holds Try.pinned (OpenSpec.upto shareApartSpec)

/-- 'sallyportlaw04.SharePlays', WHERE WHAT IT READS IS OF BULK AT MOST 1048576: true; the input reads as it did. -/
def sharePlaysUptoRow : OpenClaim := { program := "ytfdlmneofbcpnaa", sum := "9cde2b2d7909749653980f759df65ed72cf80681cc03ec8253aefc5f57667533", func := "sallyport/sallyportlaw04.SharePlays", spec := "sharePlays", apart := false, narrowed := true }
def SharePlaysUptoSaid : Prop := sharePlaysUptoRow.holds Try.pinned (OpenSpec.upto sharePlaysSpec)

/-- 'sallyportlaw04.ShareNames', WHERE WHAT IT READS IS OF BULK AT MOST 1048576: true; the input reads as it did. -/
def shareNamesUptoRow : OpenClaim := { program := "ytfdlmneofbcpnaa", sum := "9cde2b2d7909749653980f759df65ed72cf80681cc03ec8253aefc5f57667533", func := "sallyport/sallyportlaw04.ShareNames", spec := "shareNames", apart := false, narrowed := true }
def ShareNamesUptoSaid : Prop := shareNamesUptoRow.holds Try.pinned (OpenSpec.upto shareNamesSpec)

end Rows
end Go.Proofs.Ytfdlmneofbcpnaa
