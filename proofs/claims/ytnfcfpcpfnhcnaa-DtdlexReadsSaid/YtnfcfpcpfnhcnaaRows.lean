/-
  No cell of these rows narrows 'for every input' (looked for: loops, veiled, ifaces, maps, wideKeys, modest, calm, conditions, laid).
  DERIVED. THE GIVEN ROWS OF THIS SEAT. 4 by the template 'for every input the law returns true; each argument reads behind the call as it read before'; 0 by the template 'total and deterministic' (their statements: YtnfcfpcpfnhcnaaTotals.lean).
  GIVEN WITH THE SEED: the statements are not yours to turn. If you find one false, say at which input.
  Laid BY PROGRAM, IN A SANDBOX (cutbox-rows.mjs): the forced cells as the released guide's own fill.sh prints them over the translation b44976092c1d896e… (all of the seat's roots in one cut). By AI agents, Wed Nov 11 2026. No macro, syntax, notation, axiom, sorry.
-/
import Derived.Test.YtnfcfpcpfnhcnaaChecked
import GoSem.Claim
import GoSem.ClaimJoined
import GoSem.ClaimMapViews
import Derived.JoinedTies
import Derived.KernelRfl
namespace Go.Proofs.Ytnfcfpcpfnhcnaa
/- THE CELL 'sum', in the pinned program and in every row, IS THE sha256 OF THE DUMP (.gsa) THAT YtnfcfpcpfnhcnaaProg.lean LOADS. Nothing in Lean hashes anything: it is a label: what it is worth is what the hold of that sum in a sandbox is worth. -/
noncomputable def Try.pinned : Pinned := { name := "ytnfcfpcpfnhcnaa", sum := "b44976092c1d896e2776306eb4df42ee6815581a1b3fe3c05212d4c7ccf1d4c1", checked := Try.checked }
namespace Rows
def none {H : Type} : Left H := { results := [], args := [] }

/-- 'rubriclaw09.DtdlexParts': WHATEVER THE INPUT: true; the input reads as it did. -/
def dtdlexPartsSpec : ChangeSpec := { name := "dtdlexParts", fn := fun _ => fun
  | [d1, d2, d3] => { results := [.lit (.bool true)], args := [d1, d2, d3] }
  | _ => none }
def dtdlexPartsRow : OpenClaim := { program := "ytnfcfpcpfnhcnaa", sum := "b44976092c1d896e2776306eb4df42ee6815581a1b3fe3c05212d4c7ccf1d4c1", func := "rubric/rubriclaw09.DtdlexParts", spec := "dtdlexParts", inPlace := ["internal/bytealg.IndexByteString"], unfollowed := true, recurses := true, apart := false }
def DtdlexPartsSaid : Prop := dtdlexPartsRow.holds Try.pinned (OpenSpec.ofChange dtdlexPartsSpec)

/-- ITS FALSE NEIGHBOUR: 'it returns false'. Refute it at one input. -/
def dtdlexPartsWrong : ChangeSpec := { name := "dtdlexParts", fn := fun _ => fun
  | [d1, d2, d3] => { results := [.lit (.bool false)], args := [d1, d2, d3] }
  | _ => none }
def DtdlexPartsWrongFalsely : Prop := dtdlexPartsRow.holds Try.pinned (OpenSpec.ofChange dtdlexPartsWrong)

/-- 'rubriclaw09.DtdlexItems': WHATEVER THE INPUT: true; the input reads as it did. -/
def dtdlexItemsSpec : ChangeSpec := { name := "dtdlexItems", fn := fun _ => fun
  | [d1, d2, d3] => { results := [.lit (.bool true)], args := [d1, d2, d3] }
  | _ => none }
def dtdlexItemsRow : OpenClaim := { program := "ytnfcfpcpfnhcnaa", sum := "b44976092c1d896e2776306eb4df42ee6815581a1b3fe3c05212d4c7ccf1d4c1", func := "rubric/rubriclaw09.DtdlexItems", spec := "dtdlexItems", inPlace := ["internal/bytealg.IndexByteString"], unfollowed := true, recurses := true, apart := false }
def DtdlexItemsSaid : Prop := dtdlexItemsRow.holds Try.pinned (OpenSpec.ofChange dtdlexItemsSpec)

/-- ITS FALSE NEIGHBOUR: 'it returns false'. Refute it at one input. -/
def dtdlexItemsWrong : ChangeSpec := { name := "dtdlexItems", fn := fun _ => fun
  | [d1, d2, d3] => { results := [.lit (.bool false)], args := [d1, d2, d3] }
  | _ => none }
def DtdlexItemsWrongFalsely : Prop := dtdlexItemsRow.holds Try.pinned (OpenSpec.ofChange dtdlexItemsWrong)

/-- 'rubriclaw09.DtdlexReads': WHATEVER THE INPUT: true; the input reads as it did. -/
def dtdlexReadsSpec : ChangeSpec := { name := "dtdlexReads", fn := fun _ => fun
  | [d1, d2, d3] => { results := [.lit (.bool true)], args := [d1, d2, d3] }
  | _ => none }
def dtdlexReadsRow : OpenClaim := { program := "ytnfcfpcpfnhcnaa", sum := "b44976092c1d896e2776306eb4df42ee6815581a1b3fe3c05212d4c7ccf1d4c1", func := "rubric/rubriclaw09.DtdlexReads", spec := "dtdlexReads", inPlace := ["internal/bytealg.IndexByteString"], unfollowed := true, recurses := true, apart := false }
def DtdlexReadsSaid : Prop := dtdlexReadsRow.holds Try.pinned (OpenSpec.ofChange dtdlexReadsSpec)

/-- ITS FALSE NEIGHBOUR: 'it returns false'. Refute it at one input. -/
def dtdlexReadsWrong : ChangeSpec := { name := "dtdlexReads", fn := fun _ => fun
  | [d1, d2, d3] => { results := [.lit (.bool false)], args := [d1, d2, d3] }
  | _ => none }
def DtdlexReadsWrongFalsely : Prop := dtdlexReadsRow.holds Try.pinned (OpenSpec.ofChange dtdlexReadsWrong)

/-- 'rubriclaw09.DtdlexWhole': WHATEVER THE INPUT: true; the input reads as it did. -/
def dtdlexWholeSpec : ChangeSpec := { name := "dtdlexWhole", fn := fun _ => fun
  | [d] => { results := [.lit (.bool true)], args := [d] }
  | _ => none }
def dtdlexWholeRow : OpenClaim := { program := "ytnfcfpcpfnhcnaa", sum := "b44976092c1d896e2776306eb4df42ee6815581a1b3fe3c05212d4c7ccf1d4c1", func := "rubric/rubriclaw09.DtdlexWhole", spec := "dtdlexWhole", inPlace := ["internal/bytealg.IndexByteString"], unfollowed := true, recurses := true, apart := false }
def DtdlexWholeSaid : Prop := dtdlexWholeRow.holds Try.pinned (OpenSpec.ofChange dtdlexWholeSpec)

/-- ITS FALSE NEIGHBOUR: 'it returns false'. Refute it at one input. -/
def dtdlexWholeWrong : ChangeSpec := { name := "dtdlexWhole", fn := fun _ => fun
  | [d] => { results := [.lit (.bool false)], args := [d] }
  | _ => none }
def DtdlexWholeWrongFalsely : Prop := dtdlexWholeRow.holds Try.pinned (OpenSpec.ofChange dtdlexWholeWrong)

/- THE SECOND FORM. 'bulk': how many values and letters a reading holds, each counted each time it is reached (what is shared counts as often as it is met; a slice's spare places count too). A statement '..UptoSaid' is the law's where the arguments, and the package variables that the reading takes, are together of bulk at most 1048576: NARROWER than '..Said'. Prove '..Said' where nothing that the law and all that it calls make is longer than what came in: it says more and counts as full. Else prove '..UptoSaid'. A law counts once. -/
mutual
def uptoBulk {H : Type} : DataW H → Nat
  | .lit (.string bytes) => bytes.length + 1
  | .lit _ => 1
  | .nil => 1
  | .ptr d => uptoBulk d + 1
  | .slice elems spare => uptoBulkAll elems + uptoBulkAll spare + 1
  | .agg parts => uptoBulkAll parts + 1
  | .iface _ d => uptoBulk d + 1
  | .map entries => uptoBulkEntries entries + 1
  | .held _ => 1
def uptoBulkAll {H : Type} : List (DataW H) → Nat
  | [] => 0
  | d :: r => uptoBulk d + uptoBulkAll r
def uptoBulkEntries {H : Type} : List (Lit × DataW H) → Nat
  | [] => 0
  | x :: r => uptoBulkEntry x + uptoBulkEntries r
def uptoBulkEntry {H : Type} : Lit × DataW H → Nat
  | (.string bytes, d) => bytes.length + uptoBulk d + 1
  | (_, d) => uptoBulk d + 1
 end
def uptoSmall : (H : Type) → List (DataW H) → Bool := fun _ ds => decide (uptoBulkAll ds ≤ 1048576)
def OpenSpec.upto (s : _root_.Go.ChangeSpec) : _root_.Go.OpenSpec := { _root_.Go.OpenSpec.ofChange s with cond := some uptoSmall }

/-- 'rubriclaw09.DtdlexParts', WHERE WHAT IT READS IS OF BULK AT MOST 1048576: true; the input reads as it did. -/
def dtdlexPartsUptoRow : OpenClaim := { program := "ytnfcfpcpfnhcnaa", sum := "b44976092c1d896e2776306eb4df42ee6815581a1b3fe3c05212d4c7ccf1d4c1", func := "rubric/rubriclaw09.DtdlexParts", spec := "dtdlexParts", inPlace := ["internal/bytealg.IndexByteString"], unfollowed := true, recurses := true, apart := false, narrowed := true }
def DtdlexPartsUptoSaid : Prop := dtdlexPartsUptoRow.holds Try.pinned (OpenSpec.upto dtdlexPartsSpec)

/-- 'rubriclaw09.DtdlexItems', WHERE WHAT IT READS IS OF BULK AT MOST 1048576: true; the input reads as it did. -/
def dtdlexItemsUptoRow : OpenClaim := { program := "ytnfcfpcpfnhcnaa", sum := "b44976092c1d896e2776306eb4df42ee6815581a1b3fe3c05212d4c7ccf1d4c1", func := "rubric/rubriclaw09.DtdlexItems", spec := "dtdlexItems", inPlace := ["internal/bytealg.IndexByteString"], unfollowed := true, recurses := true, apart := false, narrowed := true }
def DtdlexItemsUptoSaid : Prop := dtdlexItemsUptoRow.holds Try.pinned (OpenSpec.upto dtdlexItemsSpec)

/-- 'rubriclaw09.DtdlexReads', WHERE WHAT IT READS IS OF BULK AT MOST 1048576: true; the input reads as it did. -/
def dtdlexReadsUptoRow : OpenClaim := { program := "ytnfcfpcpfnhcnaa", sum := "b44976092c1d896e2776306eb4df42ee6815581a1b3fe3c05212d4c7ccf1d4c1", func := "rubric/rubriclaw09.DtdlexReads", spec := "dtdlexReads", inPlace := ["internal/bytealg.IndexByteString"], unfollowed := true, recurses := true, apart := false, narrowed := true }
def DtdlexReadsUptoSaid : Prop := dtdlexReadsUptoRow.holds Try.pinned (OpenSpec.upto dtdlexReadsSpec)

/-- 'rubriclaw09.DtdlexWhole', WHERE WHAT IT READS IS OF BULK AT MOST 1048576: true; the input reads as it did. -/
def dtdlexWholeUptoRow : OpenClaim := { program := "ytnfcfpcpfnhcnaa", sum := "b44976092c1d896e2776306eb4df42ee6815581a1b3fe3c05212d4c7ccf1d4c1", func := "rubric/rubriclaw09.DtdlexWhole", spec := "dtdlexWhole", inPlace := ["internal/bytealg.IndexByteString"], unfollowed := true, recurses := true, apart := false, narrowed := true }
def DtdlexWholeUptoSaid : Prop := dtdlexWholeUptoRow.holds Try.pinned (OpenSpec.upto dtdlexWholeSpec)

end Rows
end Go.Proofs.Ytnfcfpcpfnhcnaa
