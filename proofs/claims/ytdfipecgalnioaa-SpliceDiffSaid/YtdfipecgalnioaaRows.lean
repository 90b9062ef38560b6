/-
  No cell of these rows narrows 'for every input' (looked for: loops, veiled, ifaces, maps, wideKeys, modest, calm, conditions, laid).
  DERIVED. THE GIVEN ROWS OF THIS SEAT. 4 by the template 'for every input the law returns true; each argument reads behind the call as it read before'; 0 by the template 'total and deterministic' (their statements: YtdfipecgalnioaaTotals.lean).
  GIVEN WITH THE SEED: the statements are not yours to turn. If you find one false, say at which input.
  Laid BY PROGRAM, IN A SANDBOX (cutbox-rows.mjs): the forced cells as the released guide's own fill.sh prints them over the translation 0a6eb770c7bde4ee… (all of the seat's roots in one cut). By AI agents, Wed Nov 11 2026. No macro, syntax, notation, axiom, sorry.
-/
import Derived.Test.YtdfipecgalnioaaChecked
import GoSem.Claim
import GoSem.ClaimJoined
import GoSem.ClaimMapViews
import Derived.JoinedTies
import Derived.KernelRfl
namespace Go.Proofs.Ytdfipecgalnioaa
/- THE CELL 'sum', in the pinned program and in every row, IS THE sha256 OF THE DUMP (.gsa) THAT YtdfipecgalnioaaProg.lean LOADS. Nothing in Lean hashes anything: it is a label: what it is worth is what the hold of that sum in a sandbox is worth. -/
noncomputable def Try.pinned : Pinned := { name := "ytdfipecgalnioaa", sum := "0a6eb770c7bde4ee34081f6eeda2e712b3c0eb7fa9fd32f26da6f14481e84a3c", checked := Try.checked }
namespace Rows
def none {H : Type} : Left H := { results := [], args := [] }

/-- 'rubriclaw12.SpliceSorted': WHATEVER THE INPUT: true; the input reads as it did. -/
def spliceSortedSpec : ChangeSpec := { name := "spliceSorted", fn := fun _ => fun
  | [d] => { results := [.lit (.bool true)], args := [d] }
  | _ => none }
def spliceSortedRow : OpenClaim := { program := "ytdfipecgalnioaa", sum := "0a6eb770c7bde4ee34081f6eeda2e712b3c0eb7fa9fd32f26da6f14481e84a3c", func := "rubric/rubriclaw12.SpliceSorted", spec := "spliceSorted", unfollowed := true, recurses := true, apart := false }
def SpliceSortedSaid : Prop := spliceSortedRow.holds Try.pinned (OpenSpec.ofChange spliceSortedSpec)

/-- ITS FALSE NEIGHBOUR: 'it returns false'. Refute it at one input. -/
def spliceSortedWrong : ChangeSpec := { name := "spliceSorted", fn := fun _ => fun
  | [d] => { results := [.lit (.bool false)], args := [d] }
  | _ => none }
def SpliceSortedWrongFalsely : Prop := spliceSortedRow.holds Try.pinned (OpenSpec.ofChange spliceSortedWrong)

/-- 'rubriclaw12.SpliceApplies': WHATEVER THE INPUT: true; the input reads as it did. -/
def spliceAppliesSpec : ChangeSpec := { name := "spliceApplies", fn := fun _ => fun
  | [d1, d2] => { results := [.lit (.bool true)], args := [d1, d2] }
  | _ => none }
def spliceAppliesRow : OpenClaim := { program := "ytdfipecgalnioaa", sum := "0a6eb770c7bde4ee34081f6eeda2e712b3c0eb7fa9fd32f26da6f14481e84a3c", func := "rubric/rubriclaw12.SpliceApplies", spec := "spliceApplies", unfollowed := true, recurses := true, apart := false }
def SpliceAppliesSaid : Prop := spliceAppliesRow.holds Try.pinned (OpenSpec.ofChange spliceAppliesSpec)

/-- ITS FALSE NEIGHBOUR: 'it returns false'. Refute it at one input. -/
def spliceAppliesWrong : ChangeSpec := { name := "spliceApplies", fn := fun _ => fun
  | [d1, d2] => { results := [.lit (.bool false)], args := [d1, d2] }
  | _ => none }
def SpliceAppliesWrongFalsely : Prop := spliceAppliesRow.holds Try.pinned (OpenSpec.ofChange spliceAppliesWrong)

/-- 'rubriclaw12.SpliceBack': WHATEVER THE INPUT: true; the input reads as it did. -/
def spliceBackSpec : ChangeSpec := { name := "spliceBack", fn := fun _ => fun
  | [d1, d2] => { results := [.lit (.bool true)], args := [d1, d2] }
  | _ => none }
def spliceBackRow : OpenClaim := { program := "ytdfipecgalnioaa", sum := "0a6eb770c7bde4ee34081f6eeda2e712b3c0eb7fa9fd32f26da6f14481e84a3c", func := "rubric/rubriclaw12.SpliceBack", spec := "spliceBack", unfollowed := true, recurses := true, apart := false }
def SpliceBackSaid : Prop := spliceBackRow.holds Try.pinned (OpenSpec.ofChange spliceBackSpec)

/-- ITS FALSE NEIGHBOUR: 'it returns false'. Refute it at one input. -/
def spliceBackWrong : ChangeSpec := { name := "spliceBack", fn := fun _ => fun
  | [d1, d2] => { results := [.lit (.bool false)], args := [d1, d2] }
  | _ => none }
def SpliceBackWrongFalsely : Prop := spliceBackRow.holds Try.pinned (OpenSpec.ofChange spliceBackWrong)

/-- 'rubriclaw12.SpliceDiff': WHATEVER THE INPUT: true; the input reads as it did. -/
def spliceDiffSpec : ChangeSpec := { name := "spliceDiff", fn := fun _ => fun
  | [d1, d2] => { results := [.lit (.bool true)], args := [d1, d2] }
  | _ => none }
def spliceDiffRow : OpenClaim := { program := "ytdfipecgalnioaa", sum := "0a6eb770c7bde4ee34081f6eeda2e712b3c0eb7fa9fd32f26da6f14481e84a3c", func := "rubric/rubriclaw12.SpliceDiff", spec := "spliceDiff", unfollowed := true, recurses := true, apart := false }
def SpliceDiffSaid : Prop := spliceDiffRow.holds Try.pinned (OpenSpec.ofChange spliceDiffSpec)

/-- ITS FALSE NEIGHBOUR: 'it returns false'. Refute it at one input. -/
def spliceDiffWrong : ChangeSpec := { name := "spliceDiff", fn := fun _ => fun
  | [d1, d2] => { results := [.lit (.bool false)], args := [d1, d2] }
  | _ => none }
def SpliceDiffWrongFalsely : Prop := spliceDiffRow.holds Try.pinned (OpenSpec.ofChange spliceDiffWrong)

/- THE SECOND FORM. 'bulk': how many values and letters a reading holds, each counted each time it is reached (what is shared counts as often as it is met; a slice's spare places count too). A statement '..UptoSaid' is the law's where the arguments, and the package variables that the reading takes, are together of bulk at most 1048576: NARROWER than '..Said'. Prove '..Said' where nothing that the law and all that it calls make is longer than what came in: it says more and counts as full. Else prove '..UptoSaid'. A law counts once. -/
mutual
def uptoBulk {H : Type} : DataW H → Nat
  | .lit (.string bytes) => bytes.length + 1
  | .lit _ => 1
  | .nil => 1
  | .ptr d => uptoBulk d + 1
  | .slice elems spare => uptoBulkAll elems + uptoBulkAll spare + 1
  | .agg parts => uptoBulkAll parts + 1
  | .iface _ d => uptoBulk d + 1
  | .map entries => uptoBulkEntries entries + 1
  | .held _ => 1
def uptoBulkAll {H : Type} : List (DataW H) → Nat
  | [] => 0
  | d :: r => uptoBulk d + uptoBulkAll r
def uptoBulkEntries {H : Type} : List (Lit × DataW H) → Nat
  | [] => 0
  | x :: r => uptoBulkEntry x + uptoBulkEntries r
def uptoBulkEntry {H : Type} : Lit × DataW H → Nat
  | (.string bytes, d) => bytes.length + uptoBulk d + 1
  | (_, d) => uptoBulk d + 1
 end
def uptoSmall : (H : Type) → List (DataW H) → Bool := fun _ ds => decide (uptoBulkAll ds ≤ 1048576)
def OpenSpec.upto (s : _root_.Go.ChangeSpec) : _root_.Go.OpenSpec := { _root_.Go.OpenSpec.ofChange s with cond := some uptoSmall }

/-- 'rubriclaw12.SpliceSorted', WHERE WHAT IT READS IS OF BULK AT MOST 1048576: true; the input reads as it did. -/
def spliceSortedUptoRow : OpenClaim := { program := "ytdfipecgalnioaa", sum := "0a6eb770c7bde4ee34081f6eeda2e712b3c0eb7fa9fd32f26da6f14481e84a3c", func := "rubric/rubriclaw12.SpliceSorted", spec := "spliceSorted", unfollowed := true, recurses := true, apart := false, narrowed := true }
def SpliceSortedUptoSaid : Prop := spliceSortedUptoRow.holds Try.pinned (OpenSpec.upto spliceSortedSpec)

/-- 'rubriclaw12.SpliceApplies', WHERE WHAT IT READS IS OF BULK AT MOST 1048576: true; the input reads as it did. -/
def spliceAppliesUptoRow : OpenClaim := { program := "ytdfipecgalnioaa", sum := "0a6eb770c7bde4ee34081f6eeda2e712b3c0eb7fa9fd32f26da6f14481e84a3c", func := "rubric/rubriclaw12.SpliceApplies", spec := "spliceApplies", unfollowed := true, recurses := true, apart := false, narrowed := true }
def SpliceAppliesUptoSaid : Prop := spliceAppliesUptoRow.holds Try.pinned (OpenSpec.upto spliceAppliesSpec)

/-- 'rubriclaw12.SpliceBack', WHERE WHAT IT READS IS OF BULK AT MOST 1048576: true; the input reads as it did. -/
def spliceBackUptoRow : OpenClaim := { program := "ytdfipecgalnioaa", sum := "0a6eb770c7bde4ee34081f6eeda2e712b3c0eb7fa9fd32f26da6f14481e84a3c", func := "rubric/rubriclaw12.SpliceBack", spec := "spliceBack", unfollowed := true, recurses := true, apart := false, narrowed := true }
def SpliceBackUptoSaid : Prop := spliceBackUptoRow.holds Try.pinned (OpenSpec.upto spliceBackSpec)

/-- 'rubriclaw12.SpliceDiff', WHERE WHAT IT READS IS OF BULK AT MOST 1048576: true; the input reads as it did. -/
def spliceDiffUptoRow : OpenClaim := { program := "ytdfipecgalnioaa", sum := "0a6eb770c7bde4ee34081f6eeda2e712b3c0eb7fa9fd32f26da6f14481e84a3c", func := "rubric/rubriclaw12.SpliceDiff", spec := "spliceDiff", unfollowed := true, recurses := true, apart := false, narrowed := true }
def SpliceDiffUptoSaid : Prop := spliceDiffUptoRow.holds Try.pinned (OpenSpec.upto spliceDiffSpec)

end Rows
end Go.Proofs.Ytdfipecgalnioaa
