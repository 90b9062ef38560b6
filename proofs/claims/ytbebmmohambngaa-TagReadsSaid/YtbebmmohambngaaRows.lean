/-
  No cell of these rows narrows 'for every input' (looked for: loops, veiled, ifaces, maps, wideKeys, modest, calm, conditions, laid).
  DERIVED. THE GIVEN ROWS OF THIS SEAT. 3 by the template 'for every input the law returns true; each argument reads behind the call as it read before'; 0 by the template 'total and deterministic' (their statements: YtbebmmohambngaaTotals.lean).
  GIVEN WITH THE SEED: the statements are not yours to turn. If you find one false, say at which input.
  Laid BY PROGRAM, IN A SANDBOX (cutbox-rows.mjs): the forced cells as the released guide's own fill.sh prints them over the translation 56174709108c2134… (all of the seat's roots in one cut). By AI agents, Wed Nov 11 2026. No macro, syntax, notation, axiom, sorry.
-/
import Derived.Test.YtbebmmohambngaaChecked
import GoSem.Claim
import GoSem.ClaimJoined
import GoSem.ClaimMapViews
import Derived.JoinedTies
import Derived.KernelRfl
namespace Go.Proofs.Ytbebmmohambngaa
/- THE CELL 'sum', in the pinned program and in every row, IS THE sha256 OF THE DUMP (.gsa) THAT YtbebmmohambngaaProg.lean LOADS. Nothing in Lean hashes anything: it is a label: what it is worth is what the hold of that sum in a sandbox is worth. -/
noncomputable def Try.pinned : Pinned := { name := "ytbebmmohambngaa", sum := "56174709108c213441c73197cfdeee06848d0589b027da8de7c91c2682d3e0da", checked := Try.checked }
namespace Rows
def none {H : Type} : Left H := { results := [], args := [] }

/-- 'rubriclaw08.TagParts': WHATEVER THE INPUT: true; the input reads as it did. -/
def tagPartsSpec : ChangeSpec := { name := "tagParts", fn := fun _ => fun
  | [d1, d2, d3] => { results := [.lit (.bool true)], args := [d1, d2, d3] }
  | _ => none }
def tagPartsRow : OpenClaim := { program := "ytbebmmohambngaa", sum := "56174709108c213441c73197cfdeee06848d0589b027da8de7c91c2682d3e0da", func := "rubric/rubriclaw08.TagParts", spec := "tagParts", unfollowed := true, recurses := true, apart := false }
def TagPartsSaid : Prop := tagPartsRow.holds Try.pinned (OpenSpec.ofChange tagPartsSpec)

/-- ITS FALSE NEIGHBOUR: 'it returns false'. Refute it at one input. -/
def tagPartsWrong : ChangeSpec := { name := "tagParts", fn := fun _ => fun
  | [d1, d2, d3] => { results := [.lit (.bool false)], args := [d1, d2, d3] }
  | _ => none }
def TagPartsWrongFalsely : Prop := tagPartsRow.holds Try.pinned (OpenSpec.ofChange tagPartsWrong)

/-- 'rubriclaw08.TagReads': WHATEVER THE INPUT: true; the input reads as it did. -/
def tagReadsSpec : ChangeSpec := { name := "tagReads", fn := fun _ => fun
  | [d1, d2, d3] => { results := [.lit (.bool true)], args := [d1, d2, d3] }
  | _ => none }
def tagReadsRow : OpenClaim := { program := "ytbebmmohambngaa", sum := "56174709108c213441c73197cfdeee06848d0589b027da8de7c91c2682d3e0da", func := "rubric/rubriclaw08.TagReads", spec := "tagReads", unfollowed := true, recurses := true, apart := false }
def TagReadsSaid : Prop := tagReadsRow.holds Try.pinned (OpenSpec.ofChange tagReadsSpec)

/-- ITS FALSE NEIGHBOUR: 'it returns false'. Refute it at one input. -/
def tagReadsWrong : ChangeSpec := { name := "tagReads", fn := fun _ => fun
  | [d1, d2, d3] => { results := [.lit (.bool false)], args := [d1, d2, d3] }
  | _ => none }
def TagReadsWrongFalsely : Prop := tagReadsRow.holds Try.pinned (OpenSpec.ofChange tagReadsWrong)

/-- 'rubriclaw08.TagWhole': WHATEVER THE INPUT: true; the input reads as it did. -/
def tagWholeSpec : ChangeSpec := { name := "tagWhole", fn := fun _ => fun
  | [d] => { results := [.lit (.bool true)], args := [d] }
  | _ => none }
def tagWholeRow : OpenClaim := { program := "ytbebmmohambngaa", sum := "56174709108c213441c73197cfdeee06848d0589b027da8de7c91c2682d3e0da", func := "rubric/rubriclaw08.TagWhole", spec := "tagWhole", unfollowed := true, recurses := true, apart := false }
def TagWholeSaid : Prop := tagWholeRow.holds Try.pinned (OpenSpec.ofChange tagWholeSpec)

/-- ITS FALSE NEIGHBOUR: 'it returns false'. Refute it at one input. -/
def tagWholeWrong : ChangeSpec := { name := "tagWhole", fn := fun _ => fun
  | [d] => { results := [.lit (.bool false)], args := [d] }
  | _ => none }
def TagWholeWrongFalsely : Prop := tagWholeRow.holds Try.pinned (OpenSpec.ofChange tagWholeWrong)

/- THE SECOND FORM. 'bulk': how many values and letters a reading holds, each counted each time it is reached (what is shared counts as often as it is met; a slice's spare places count too). A statement '..UptoSaid' is the law's where the arguments, and the package variables that the reading takes, are together of bulk at most 1048576: NARROWER than '..Said'. Prove '..Said' where nothing that the law and all that it calls make is longer than what came in: it says more and counts as full. Else prove '..UptoSaid'. A law counts once. -/
mutual
def uptoBulk {H : Type} : DataW H → Nat
  | .lit (.string bytes) => bytes.length + 1
  | .lit _ => 1
  | .nil => 1
  | .ptr d => uptoBulk d + 1
  | .slice elems spare => uptoBulkAll elems + uptoBulkAll spare + 1
  | .agg parts => uptoBulkAll parts + 1
  | .iface _ d => uptoBulk d + 1
  | .map entries => uptoBulkEntries entries + 1
  | .held _ => 1
def uptoBulkAll {H : Type} : List (DataW H) → Nat
  | [] => 0
  | d :: r => uptoBulk d + uptoBulkAll r
def uptoBulkEntries {H : Type} : List (Lit × DataW H) → Nat
  | [] => 0
  | x :: r => uptoBulkEntry x + uptoBulkEntries r
def uptoBulkEntry {H : Type} : Lit × DataW H → Nat
  | (.string bytes, d) => bytes.length + uptoBulk d + 1
  | (_, d) => uptoBulk d + 1
 end
def uptoSmall : (H : Type) → List (DataW H) → Bool := fun _ ds => decide (uptoBulkAll ds ≤ 1048576)
def OpenSpec.upto (s : _root_.Go.ChangeSpec) : _root_.Go.OpenSpec := { _root_.Go.OpenSpec.ofChange s with cond := some uptoSmall }

/-- 'rubriclaw08.TagParts', WHERE WHAT IT READS IS OF BULK AT MOST 1048576: true; the input reads as it did. -/
def tagPartsUptoRow : OpenClaim := { program := "ytbebmmohambngaa", sum := "56174709108c213441c73197cfdeee06848d0589b027da8de7c91c2682d3e0da", func := "rubric/rubriclaw08.TagParts", spec := "tagParts", unfollowed := true, recurses := true, apart := false, narrowed := true }
def TagPartsUptoSaid : Prop := tagPartsUptoRow.holds Try.pinned (OpenSpec.upto tagPartsSpec)

/-- 'rubriclaw08.TagReads', WHERE WHAT IT READS IS OF BULK AT MOST 1048576: true; the input reads as it did. -/
def tagReadsUptoRow : OpenClaim := { program := "ytbebmmohambngaa", sum := "56174709108c213441c73197cfdeee06848d0589b027da8de7c91c2682d3e0da", func := "rubric/rubriclaw08.TagReads", spec := "tagReads", unfollowed := true, recurses := true, apart := false, narrowed := true }
def TagReadsUptoSaid : Prop := tagReadsUptoRow.holds Try.pinned (OpenSpec.upto tagReadsSpec)

/-- 'rubriclaw08.TagWhole', WHERE WHAT IT READS IS OF BULK AT MOST 1048576: true; the input reads as it did. -/
def tagWholeUptoRow : OpenClaim := { program := "ytbebmmohambngaa", sum := "56174709108c213441c73197cfdeee06848d0589b027da8de7c91c2682d3e0da", func := "rubric/rubriclaw08.TagWhole", spec := "tagWhole", unfollowed := true, recurses := true, apart := false, narrowed := true }
def TagWholeUptoSaid : Prop := tagWholeUptoRow.holds Try.pinned (OpenSpec.upto tagWholeSpec)

end Rows
end Go.Proofs.Ytbebmmohambngaa
