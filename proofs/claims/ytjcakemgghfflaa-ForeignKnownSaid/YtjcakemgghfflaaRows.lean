/-
  No cell of these rows narrows 'for every input' (looked for: loops, veiled, ifaces, maps, wideKeys, modest, calm, conditions, laid).
  DERIVED. THE GIVEN ROWS OF THIS SEAT. 6 by the template 'for every input the law returns true; each argument reads behind the call as it read before'; 0 by the template 'total and deterministic' (their statements: YtjcakemgghfflaaTotals.lean).
  GIVEN WITH THE SEED: the statements are not yours to turn. If you find one false, say at which input.
  Laid BY PROGRAM, IN A SANDBOX (cutbox-rows.mjs): the forced cells as the released guide's own fill.sh prints them over the translation 0c33d513e41e2a89… (all of the seat's roots in one cut). By AI agents, Wed Nov 11 2026. No macro, syntax, notation, axiom, sorry.
-/
import Derived.Test.YtjcakemgghfflaaChecked
import GoSem.Claim
import GoSem.ClaimJoined
import GoSem.ClaimMapViews
import Derived.JoinedTies
import Derived.KernelRfl
namespace Go.Proofs.Ytjcakemgghfflaa
/- THE CELL 'sum', in the pinned program and in every row, IS THE sha256 OF THE DUMP (.gsa) THAT YtjcakemgghfflaaProg.lean LOADS. Nothing in Lean hashes anything: it is a label: what it is worth is what the hold of that sum in a sandbox is worth. -/
noncomputable def Try.pinned : Pinned := { name := "ytjcakemgghfflaa", sum := "0c33d513e41e2a89016baf98b1f65e1d406010a09654fbc3654950500bbada04", checked := Try.checked }
namespace Rows
def none {H : Type} : Left H := { results := [], args := [] }

/-- 'sallyportlaw23.ForeignWindow': WHATEVER THE INPUT: true; the input reads as it did. -/
def foreignWindowSpec : ChangeSpec := { name := "foreignWindow", fn := fun _ => fun
  | [d1, d2, d3] => { results := [.lit (.bool true)], args := [d1, d2, d3] }
  | _ => none }
def foreignWindowRow : OpenClaim := { program := "ytjcakemgghfflaa", sum := "0c33d513e41e2a89016baf98b1f65e1d406010a09654fbc3654950500bbada04", func := "sallyport/sallyportlaw23.ForeignWindow", spec := "foreignWindow", unfollowed := true, recurses := true, apart := false }
def ForeignWindowSaid : Prop := foreignWindowRow.holds Try.pinned (OpenSpec.ofChange foreignWindowSpec)

/-- ITS FALSE NEIGHBOUR: 'it returns false'. Refute it at one input. -/
def foreignWindowWrong : ChangeSpec := { name := "foreignWindow", fn := fun _ => fun
  | [d1, d2, d3] => { results := [.lit (.bool false)], args := [d1, d2, d3] }
  | _ => none }
def ForeignWindowWrongFalsely : Prop := foreignWindowRow.holds Try.pinned (OpenSpec.ofChange foreignWindowWrong)

/-- 'sallyportlaw23.ForeignShown': WHATEVER THE INPUT: true; the input reads as it did. -/
def foreignShownSpec : ChangeSpec := { name := "foreignShown", fn := fun _ => fun
  | [d1, d2, d3] => { results := [.lit (.bool true)], args := [d1, d2, d3] }
  | _ => none }
def foreignShownRow : OpenClaim := { program := "ytjcakemgghfflaa", sum := "0c33d513e41e2a89016baf98b1f65e1d406010a09654fbc3654950500bbada04", func := "sallyport/sallyportlaw23.ForeignShown", spec := "foreignShown", unfollowed := true, recurses := true, apart := false }
def ForeignShownSaid : Prop := foreignShownRow.holds Try.pinned (OpenSpec.ofChange foreignShownSpec)

/-- ITS FALSE NEIGHBOUR: 'it returns false'. Refute it at one input. -/
def foreignShownWrong : ChangeSpec := { name := "foreignShown", fn := fun _ => fun
  | [d1, d2, d3] => { results := [.lit (.bool false)], args := [d1, d2, d3] }
  | _ => none }
def ForeignShownWrongFalsely : Prop := foreignShownRow.holds Try.pinned (OpenSpec.ofChange foreignShownWrong)

/-- 'sallyportlaw23.ForeignSame': WHATEVER THE INPUT: true; the input reads as it did. -/
def foreignSameSpec : ChangeSpec := { name := "foreignSame", fn := fun _ => fun
  | [d1, d2] => { results := [.lit (.bool true)], args := [d1, d2] }
  | _ => none }
def foreignSameRow : OpenClaim := { program := "ytjcakemgghfflaa", sum := "0c33d513e41e2a89016baf98b1f65e1d406010a09654fbc3654950500bbada04", func := "sallyport/sallyportlaw23.ForeignSame", spec := "foreignSame", unfollowed := true, recurses := true, apart := false }
def ForeignSameSaid : Prop := foreignSameRow.holds Try.pinned (OpenSpec.ofChange foreignSameSpec)

/-- ITS FALSE NEIGHBOUR: 'it returns false'. Refute it at one input. -/
def foreignSameWrong : ChangeSpec := { name := "foreignSame", fn := fun _ => fun
  | [d1, d2] => { results := [.lit (.bool false)], args := [d1, d2] }
  | _ => none }
def ForeignSameWrongFalsely : Prop := foreignSameRow.holds Try.pinned (OpenSpec.ofChange foreignSameWrong)

/-- 'sallyportlaw23.ForeignKnown': WHATEVER THE INPUT: true; the input reads as it did. -/
def foreignKnownSpec : ChangeSpec := { name := "foreignKnown", fn := fun _ => fun
  | [] => { results := [.lit (.bool true)], args := [] }
  | _ => none }
def foreignKnownRow : OpenClaim := { program := "ytjcakemgghfflaa", sum := "0c33d513e41e2a89016baf98b1f65e1d406010a09654fbc3654950500bbada04", func := "sallyport/sallyportlaw23.ForeignKnown", spec := "foreignKnown", unfollowed := true, recurses := true, apart := false }
def ForeignKnownSaid : Prop := foreignKnownRow.holds Try.pinned (OpenSpec.ofChange foreignKnownSpec)

/-- ITS FALSE NEIGHBOUR: 'it returns false'. Refute it at one input. -/
def foreignKnownWrong : ChangeSpec := { name := "foreignKnown", fn := fun _ => fun
  | [] => { results := [.lit (.bool false)], args := [] }
  | _ => none }
def ForeignKnownWrongFalsely : Prop := foreignKnownRow.holds Try.pinned (OpenSpec.ofChange foreignKnownWrong)

/-- 'sallyportlaw23.ForeignLends': WHATEVER THE INPUT: true; the input reads as it did. -/
def foreignLendsSpec : ChangeSpec := { name := "foreignLends", fn := fun _ => fun
  | [d1, d2] => { results := [.lit (.bool true)], args := [d1, d2] }
  | _ => none }
def foreignLendsRow : OpenClaim := { program := "ytjcakemgghfflaa", sum := "0c33d513e41e2a89016baf98b1f65e1d406010a09654fbc3654950500bbada04", func := "sallyport/sallyportlaw23.ForeignLends", spec := "foreignLends", unfollowed := true, recurses := true, apart := false }
def ForeignLendsSaid : Prop := foreignLendsRow.holds Try.pinned (OpenSpec.ofChange foreignLendsSpec)

/-- ITS FALSE NEIGHBOUR: 'it returns false'. Refute it at one input. -/
def foreignLendsWrong : ChangeSpec := { name := "foreignLends", fn := fun _ => fun
  | [d1, d2] => { results := [.lit (.bool false)], args := [d1, d2] }
  | _ => none }
def ForeignLendsWrongFalsely : Prop := foreignLendsRow.holds Try.pinned (OpenSpec.ofChange foreignLendsWrong)

/-- 'sallyportlaw23.ForeignCopies': WHATEVER THE INPUT: true; the input reads as it did. -/
def foreignCopiesSpec : ChangeSpec := { name := "foreignCopies", fn := fun _ => fun
  | [d1, d2, d3] => { results := [.lit (.bool true)], args := [d1, d2, d3] }
  | _ => none }
def foreignCopiesRow : OpenClaim := { program := "ytjcakemgghfflaa", sum := "0c33d513e41e2a89016baf98b1f65e1d406010a09654fbc3654950500bbada04", func := "sallyport/sallyportlaw23.ForeignCopies", spec := "foreignCopies", unfollowed := true, recurses := true, apart := false }
def ForeignCopiesSaid : Prop := foreignCopiesRow.holds Try.pinned (OpenSpec.ofChange foreignCopiesSpec)

/-- ITS FALSE NEIGHBOUR: 'it returns false'. Refute it at one input. -/
def foreignCopiesWrong : ChangeSpec := { name := "foreignCopies", fn := fun _ => fun
  | [d1, d2, d3] => { results := [.lit (.bool false)], args := [d1, d2, d3] }
  | _ => none }
def ForeignCopiesWrongFalsely : Prop := foreignCopiesRow.holds Try.pinned (OpenSpec.ofChange foreignCopiesWrong)

/- THE SECOND FORM. 'bulk': how many values and letters a reading holds, each counted each time it is reached (what is shared counts as often as it is met; a slice's spare places count too). A statement '..UptoSaid' is the law's where the arguments, and the package variables that the reading takes, are together of bulk at most 1048576: NARROWER than '..Said'. Prove '..Said' where nothing that the law and all that it calls make is longer than what came in: it says more and counts as full. Else prove '..UptoSaid'. A law counts once. -/
mutual
def uptoBulk {H : Type} : DataW H → Nat
  | .lit (.string bytes) => bytes.length + 1
  | .lit _ => 1
  | .nil => 1
  | .ptr d => uptoBulk d + 1
  | .slice elems spare => uptoBulkAll elems + uptoBulkAll spare + 1
  | .agg parts => uptoBulkAll parts + 1
  | .iface _ d => uptoBulk d + 1
  | .map entries => uptoBulkEntries entries + 1
  | .held _ => 1
def uptoBulkAll {H : Type} : List (DataW H) → Nat
  | [] => 0
  | d :: r => uptoBulk d + uptoBulkAll r
def uptoBulkEntries {H : Type} : List (Lit × DataW H) → Nat
  | [] => 0
  | x :: r => uptoBulkEntry x + uptoBulkEntries r
def uptoBulkEntry {H : Type} : Lit × DataW H → Nat
  | (.string bytes, d) => bytes.length + uptoBulk d + 1
  | (_, d) => uptoBulk d + 1
 end
def uptoSmall : (H : Type) → List (DataW H) → Bool := fun _ ds => decide (uptoBulkAll ds ≤ 1048576)
def OpenSpec.upto (s : _root_.Go.ChangeSpec) : _root_.Go.OpenSpec := { _root_.Go.OpenSpec.ofChange s with cond := some uptoSmall }

/-- 'sallyportlaw23.ForeignWindow', WHERE WHAT IT READS IS OF BULK AT MOST 1048576: true; the input reads as it did. -/
def foreignWindowUptoRow : OpenClaim := { program := "ytjcakemgghfflaa", sum := "0c33d513e41e2a89016baf98b1f65e1d406010a09654fbc3654950500bbada04", func := "sallyport/sallyportlaw23.ForeignWindow", spec := "foreignWindow", unfollowed := true, recurses := true, apart := false, narrowed := true }
def ForeignWindowUptoSaid : Prop := foreignWindowUptoRow.holds Try.pinned (OpenSpec.upto foreignWindowSpec)

/-- 'sallyportlaw23.ForeignShown', WHERE WHAT IT READS IS OF BULK AT MOST 1048576: true; the input reads as it did. -/
def foreignShownUptoRow : OpenClaim := { program := "ytjcakemgghfflaa", sum := "0c33d513e41e2a89016baf98b1f65e1d406010a09654fbc3654950500bbada04", func := "sallyport/sallyportlaw23.ForeignShown", spec := "foreignShown", unfollowed := true, recurses := true, apart := false, narrowed := true }
def ForeignShownUptoSaid : Prop := foreignShownUptoRow.holds Try.pinned (OpenSpec.upto foreignShownSpec)

/-- 'sallyportlaw23.ForeignSame', WHERE WHAT IT READS IS OF BULK AT MOST 1048576: true; the input reads as it did. -/
def foreignSameUptoRow : OpenClaim := { program := "ytjcakemgghfflaa", sum := "0c33d513e41e2a89016baf98b1f65e1d406010a09654fbc3654950500bbada04", func := "sallyport/sallyportlaw23.ForeignSame", spec := "foreignSame", unfollowed := true, recurses := true, apart := false, narrowed := true }
def ForeignSameUptoSaid : Prop := foreignSameUptoRow.holds Try.pinned (OpenSpec.upto foreignSameSpec)

/-- 'sallyportlaw23.ForeignKnown', WHERE WHAT IT READS IS OF BULK AT MOST 1048576: true; the input reads as it did. -/
def foreignKnownUptoRow : OpenClaim := { program := "ytjcakemgghfflaa", sum := "0c33d513e41e2a89016baf98b1f65e1d406010a09654fbc3654950500bbada04", func := "sallyport/sallyportlaw23.ForeignKnown", spec := "foreignKnown", unfollowed := true, recurses := true, apart := false, narrowed := true }
def ForeignKnownUptoSaid : Prop := foreignKnownUptoRow.holds Try.pinned (OpenSpec.upto foreignKnownSpec)

/-- 'sallyportlaw23.ForeignLends', WHERE WHAT IT READS IS OF BULK AT MOST 1048576: true; the input reads as it did. -/
def foreignLendsUptoRow : OpenClaim := { program := "ytjcakemgghfflaa", sum := "0c33d513e41e2a89016baf98b1f65e1d406010a09654fbc3654950500bbada04", func := "sallyport/sallyportlaw23.ForeignLends", spec := "foreignLends", unfollowed := true, recurses := true, apart := false, narrowed := true }
def ForeignLendsUptoSaid : Prop := foreignLendsUptoRow.holds Try.pinned (OpenSpec.upto foreignLendsSpec)

/-- 'sallyportlaw23.ForeignCopies', WHERE WHAT IT READS IS OF BULK AT MOST 1048576: true; the input reads as it did. -/
def foreignCopiesUptoRow : OpenClaim := { program := "ytjcakemgghfflaa", sum := "0c33d513e41e2a89016baf98b1f65e1d406010a09654fbc3654950500bbada04", func := "sallyport/sallyportlaw23.ForeignCopies", spec := "foreignCopies", unfollowed := true, recurses := true, apart := false, narrowed := true }
def ForeignCopiesUptoSaid : Prop := foreignCopiesUptoRow.holds Try.pinned (OpenSpec.upto foreignCopiesSpec)

end Rows
end Go.Proofs.Ytjcakemgghfflaa
