/-
  No cell of these rows narrows 'for every input' (looked for: loops, veiled, ifaces, maps, wideKeys, modest, calm, conditions, laid).
  DERIVED. THE GIVEN ROWS OF THIS SEAT. 7 by the template 'for every input the law returns true; each argument reads behind the call as it read before'; 0 by the template 'total and deterministic' (their statements: YtpdelhcokcikaaaTotals.lean).
  GIVEN WITH THE SEED: the statements are not yours to turn. If you find one false, say at which input.
  Laid BY PROGRAM, IN A SANDBOX (cutbox-rows.mjs): the forced cells as the released guide's own fill.sh prints them over the translation 32421083eb349956… (all of the seat's roots in one cut). By AI agents, Wed Nov 11 2026. No macro, syntax, notation, axiom, sorry.
-/
import Derived.Test.YtpdelhcokcikaaaChecked
import GoSem.Claim
import GoSem.ClaimJoined
import GoSem.ClaimMapViews
import Derived.JoinedTies
import Derived.KernelRfl
namespace Go.Proofs.Ytpdelhcokcikaaa
/- THE CELL 'sum', in the pinned program and in every row, IS THE sha256 OF THE DUMP (.gsa) THAT YtpdelhcokcikaaaProg.lean LOADS. Nothing in Lean hashes anything: it is a label: what it is worth is what the hold of that sum in a sandbox is worth. -/
noncomputable def Try.pinned : Pinned := { name := "ytpdelhcokcikaaa", sum := "32421083eb34995658f87f427835ab4ead65a42b08b3c7893578ca3c8c5159df", checked := Try.checked }
namespace Rows
def none {H : Type} : Left H := { results := [], args := [] }

/-- 'sallyportlaw13.InsnWords': WHATEVER THE INPUT: true; the input reads as it did. -/
def insnWordsSpec : ChangeSpec := { name := "insnWords", fn := fun _ => fun
  | [d] => { results := [.lit (.bool true)], args := [d] }
  | _ => none }
def insnWordsRow : OpenClaim := { program := "ytpdelhcokcikaaa", sum := "32421083eb34995658f87f427835ab4ead65a42b08b3c7893578ca3c8c5159df", func := "sallyport/sallyportlaw13.InsnWords", spec := "insnWords", apart := false }
def InsnWordsSaid : Prop := insnWordsRow.holds Try.pinned (OpenSpec.ofChange insnWordsSpec)

/-- ITS FALSE NEIGHBOUR: 'it returns false'. Refute it at one input. -/
def insnWordsWrong : ChangeSpec := { name := "insnWords", fn := fun _ => fun
  | [d] => { results := [.lit (.bool false)], args := [d] }
  | _ => none }
def InsnWordsWrongFalsely : Prop := insnWordsRow.holds Try.pinned (OpenSpec.ofChange insnWordsWrong)

/-- 'sallyportlaw13.InsnReads': WHATEVER THE INPUT: true; the input reads as it did. -/
def insnReadsSpec : ChangeSpec := { name := "insnReads", fn := fun _ => fun
  | [d] => { results := [.lit (.bool true)], args := [d] }
  | _ => none }
def insnReadsRow : OpenClaim := { program := "ytpdelhcokcikaaa", sum := "32421083eb34995658f87f427835ab4ead65a42b08b3c7893578ca3c8c5159df", func := "sallyport/sallyportlaw13.InsnReads", spec := "insnReads", apart := false }
def InsnReadsSaid : Prop := insnReadsRow.holds Try.pinned (OpenSpec.ofChange insnReadsSpec)

/-- ITS FALSE NEIGHBOUR: 'it returns false'. Refute it at one input. -/
def insnReadsWrong : ChangeSpec := { name := "insnReads", fn := fun _ => fun
  | [d] => { results := [.lit (.bool false)], args := [d] }
  | _ => none }
def InsnReadsWrongFalsely : Prop := insnReadsRow.holds Try.pinned (OpenSpec.ofChange insnReadsWrong)

/-- 'sallyportlaw13.InsnUses': WHATEVER THE INPUT: true; the input reads as it did. -/
def insnUsesSpec : ChangeSpec := { name := "insnUses", fn := fun _ => fun
  | [d] => { results := [.lit (.bool true)], args := [d] }
  | _ => none }
def insnUsesRow : OpenClaim := { program := "ytpdelhcokcikaaa", sum := "32421083eb34995658f87f427835ab4ead65a42b08b3c7893578ca3c8c5159df", func := "sallyport/sallyportlaw13.InsnUses", spec := "insnUses", apart := false }
def InsnUsesSaid : Prop := insnUsesRow.holds Try.pinned (OpenSpec.ofChange insnUsesSpec)

/-- ITS FALSE NEIGHBOUR: 'it returns false'. Refute it at one input. -/
def insnUsesWrong : ChangeSpec := { name := "insnUses", fn := fun _ => fun
  | [d] => { results := [.lit (.bool false)], args := [d] }
  | _ => none }
def InsnUsesWrongFalsely : Prop := insnUsesRow.holds Try.pinned (OpenSpec.ofChange insnUsesWrong)

/-- 'sallyportlaw13.InsnNames': WHATEVER THE INPUT: true; the input reads as it did. -/
def insnNamesSpec : ChangeSpec := { name := "insnNames", fn := fun _ => fun
  | [d1, d2] => { results := [.lit (.bool true)], args := [d1, d2] }
  | _ => none }
def insnNamesRow : OpenClaim := { program := "ytpdelhcokcikaaa", sum := "32421083eb34995658f87f427835ab4ead65a42b08b3c7893578ca3c8c5159df", func := "sallyport/sallyportlaw13.InsnNames", spec := "insnNames", apart := false }
def InsnNamesSaid : Prop := insnNamesRow.holds Try.pinned (OpenSpec.ofChange insnNamesSpec)

/-- ITS FALSE NEIGHBOUR: 'it returns false'. Refute it at one input. -/
def insnNamesWrong : ChangeSpec := { name := "insnNames", fn := fun _ => fun
  | [d1, d2] => { results := [.lit (.bool false)], args := [d1, d2] }
  | _ => none }
def InsnNamesWrongFalsely : Prop := insnNamesRow.holds Try.pinned (OpenSpec.ofChange insnNamesWrong)

/-- 'sallyportlaw13.InsnBack': WHATEVER THE INPUT: true; the input reads as it did. -/
def insnBackSpec : ChangeSpec := { name := "insnBack", fn := fun _ => fun
  | [d1, d2, d3] => { results := [.lit (.bool true)], args := [d1, d2, d3] }
  | _ => none }
def insnBackRow : OpenClaim := { program := "ytpdelhcokcikaaa", sum := "32421083eb34995658f87f427835ab4ead65a42b08b3c7893578ca3c8c5159df", func := "sallyport/sallyportlaw13.InsnBack", spec := "insnBack", apart := false }
def InsnBackSaid : Prop := insnBackRow.holds Try.pinned (OpenSpec.ofChange insnBackSpec)

/-- ITS FALSE NEIGHBOUR: 'it returns false'. Refute it at one input. -/
def insnBackWrong : ChangeSpec := { name := "insnBack", fn := fun _ => fun
  | [d1, d2, d3] => { results := [.lit (.bool false)], args := [d1, d2, d3] }
  | _ => none }
def InsnBackWrongFalsely : Prop := insnBackRow.holds Try.pinned (OpenSpec.ofChange insnBackWrong)

/-- 'sallyportlaw13.InsnBit': WHATEVER THE INPUT: true; the input reads as it did. -/
def insnBitSpec : ChangeSpec := { name := "insnBit", fn := fun _ => fun
  | [d1, d2] => { results := [.lit (.bool true)], args := [d1, d2] }
  | _ => none }
def insnBitRow : OpenClaim := { program := "ytpdelhcokcikaaa", sum := "32421083eb34995658f87f427835ab4ead65a42b08b3c7893578ca3c8c5159df", func := "sallyport/sallyportlaw13.InsnBit", spec := "insnBit", apart := false }
def InsnBitSaid : Prop := insnBitRow.holds Try.pinned (OpenSpec.ofChange insnBitSpec)

/-- ITS FALSE NEIGHBOUR: 'it returns false'. Refute it at one input. -/
def insnBitWrong : ChangeSpec := { name := "insnBit", fn := fun _ => fun
  | [d1, d2] => { results := [.lit (.bool false)], args := [d1, d2] }
  | _ => none }
def InsnBitWrongFalsely : Prop := insnBitRow.holds Try.pinned (OpenSpec.ofChange insnBitWrong)

/-- 'sallyportlaw13.InsnKnown': WHATEVER THE INPUT: true; the input reads as it did. -/
def insnKnownSpec : ChangeSpec := { name := "insnKnown", fn := fun _ => fun
  | [] => { results := [.lit (.bool true)], args := [] }
  | _ => none }
def insnKnownRow : OpenClaim := { program := "ytpdelhcokcikaaa", sum := "32421083eb34995658f87f427835ab4ead65a42b08b3c7893578ca3c8c5159df", func := "sallyport/sallyportlaw13.InsnKnown", spec := "insnKnown", apart := false }
def InsnKnownSaid : Prop := insnKnownRow.holds Try.pinned (OpenSpec.ofChange insnKnownSpec)

/-- ITS FALSE NEIGHBOUR: 'it returns false'. Refute it at one input. -/
def insnKnownWrong : ChangeSpec := { name := "insnKnown", fn := fun _ => fun
  | [] => { results := [.lit (.bool false)], args := [] }
  | _ => none }
def InsnKnownWrongFalsely : Prop := insnKnownRow.holds Try.pinned (OpenSpec.ofChange insnKnownWrong)

/- THE SECOND FORM. 'bulk': how many values and letters a reading holds, each counted each time it is reached (what is shared counts as often as it is met; a slice's spare places count too). A statement '..UptoSaid' is the law's where the arguments, and the package variables that the reading takes, are together of bulk at most 1048576: NARROWER than '..Said'. Prove '..Said' where nothing that the law and all that it calls make is longer than what came in: it says more and counts as full. Else prove '..UptoSaid'. A law counts once. -/
mutual
def uptoBulk {H : Type} : DataW H → Nat
  | .lit (.string bytes) => bytes.length + 1
  | .lit _ => 1
  | .nil => 1
  | .ptr d => uptoBulk d + 1
  | .slice elems spare => uptoBulkAll elems + uptoBulkAll spare + 1
  | .agg parts => uptoBulkAll parts + 1
  | .iface _ d => uptoBulk d + 1
  | .map entries => uptoBulkEntries entries + 1
  | .held _ => 1
def uptoBulkAll {H : Type} : List (DataW H) → Nat
  | [] => 0
  | d :: r => uptoBulk d + uptoBulkAll r
def uptoBulkEntries {H : Type} : List (Lit × DataW H) → Nat
  | [] => 0
  | x :: r => uptoBulkEntry x + uptoBulkEntries r
def uptoBulkEntry {H : Type} : Lit × DataW H → Nat
  | (.string bytes, d) => bytes.length + uptoBulk d + 1
  | (_, d) => uptoBulk d + 1
 end
def uptoSmall : (H : Type) → List (DataW H) → Bool := fun _ ds => decide (uptoBulkAll ds ≤ 1048576)
def OpenSpec.upto (s : _root_.Go.ChangeSpec) : _root_.Go.OpenSpec := { _root_.Go.OpenSpec.ofChange s with cond := some uptoSmall }

/-- 'sallyportlaw13.InsnWords', WHERE WHAT IT READS IS OF BULK AT MOST 1048576: true; the input reads as it did. -/
def insnWordsUptoRow : OpenClaim := { program := "ytpdelhcokcikaaa", sum := "32421083eb34995658f87f427835ab4ead65a42b08b3c7893578ca3c8c5159df", func := "sallyport/sallyportlaw13.InsnWords", spec := "insnWords", apart := false, narrowed := true }
def InsnWordsUptoSaid : Prop := insnWordsUptoRow.holds Try.pinned (OpenSpec.upto insnWordsSpec)

/-- 'sallyportlaw13.InsnReads', WHERE WHAT IT READS IS OF BULK AT MOST 1048576: true; the input reads as it did. -/
def insnReadsUptoRow : OpenClaim := { program := "ytpdelhcokcikaaa", sum := "32421083eb34995658f87f427835ab4ead65a42b08b3c7893578ca3c8c5159df", func := "sallyport/sallyportlaw13.InsnReads", spec := "insnReads", apart := false, narrowed := true }
def InsnReadsUptoSaid : Prop := insnReadsUptoRow.holds Try.pinned (OpenSpec.upto insnReadsSpec)

/-- 'sallyportlaw13.InsnUses', WHERE WHAT IT READS IS OF BULK AT MOST 1048576: true; the input reads as it did. -/
def insnUsesUptoRow : OpenClaim := { program := "ytpdelhcokcikaaa", sum := "32421083eb34995658f87f427835ab4ead65a42b08b3c7893578ca3c8c5159df", func := "sallyport/sallyportlaw13.InsnUses", spec := "insnUses", apart := false, narrowed := true }
def InsnUsesUptoSaid : Prop := insnUsesUptoRow.holds Try.pinned (OpenSpec.upto insnUsesSpec)

/-- 'sallyportlaw13.InsnNames', WHERE WHAT IT READS IS OF BULK AT MOST 1048576: true; the input reads as it did. -/
def insnNamesUptoRow : OpenClaim := { program := "ytpdelhcokcikaaa", sum := "32421083eb34995658f87f427835ab4ead65a42b08b3c7893578ca3c8c5159df", func := "sallyport/sallyportlaw13.InsnNames", spec := "insnNames", apart := false, narrowed := true }
def InsnNamesUptoSaid : Prop := insnNamesUptoRow.holds Try.pinned (OpenSpec.upto insnNamesSpec)

/-- 'sallyportlaw13.InsnBack', WHERE WHAT IT READS IS OF BULK AT MOST 1048576: true; the input reads as it did. -/
def insnBackUptoRow : OpenClaim := { program := "ytpdelhcokcikaaa", sum := "32421083eb34995658f87f427835ab4ead65a42b08b3c7893578ca3c8c5159df", func := "sallyport/sallyportlaw13.InsnBack", spec := "insnBack", apart := false, narrowed := true }
def InsnBackUptoSaid : Prop := insnBackUptoRow.holds Try.pinned (OpenSpec.upto insnBackSpec)

/-- 'sallyportlaw13.InsnBit', WHERE WHAT IT READS IS OF BULK AT MOST 1048576: true; the input reads as it did. -/
def insnBitUptoRow : OpenClaim := { program := "ytpdelhcokcikaaa", sum := "32421083eb34995658f87f427835ab4ead65a42b08b3c7893578ca3c8c5159df", func := "sallyport/sallyportlaw13.InsnBit", spec := "insnBit", apart := false, narrowed := true }
def InsnBitUptoSaid : Prop := insnBitUptoRow.holds Try.pinned (OpenSpec.upto insnBitSpec)

/-- 'sallyportlaw13.InsnKnown', WHERE WHAT IT READS IS OF BULK AT MOST 1048576: true; the input reads as it did. -/
def insnKnownUptoRow : OpenClaim := { program := "ytpdelhcokcikaaa", sum := "32421083eb34995658f87f427835ab4ead65a42b08b3c7893578ca3c8c5159df", func := "sallyport/sallyportlaw13.InsnKnown", spec := "insnKnown", apart := false, narrowed := true }
def InsnKnownUptoSaid : Prop := insnKnownUptoRow.holds Try.pinned (OpenSpec.upto insnKnownSpec)

end Rows
end Go.Proofs.Ytpdelhcokcikaaa
