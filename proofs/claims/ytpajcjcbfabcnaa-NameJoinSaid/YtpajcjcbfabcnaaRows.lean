/-
  No cell of these rows narrows 'for every input' (looked for: loops, veiled, ifaces, maps, wideKeys, modest, calm, conditions, laid).
  DERIVED. THE GIVEN ROWS OF THIS SEAT. 6 by the template 'for every input the law returns true; each argument reads behind the call as it read before'; 0 by the template 'total and deterministic' (their statements: YtpajcjcbfabcnaaTotals.lean).
  GIVEN WITH THE SEED: the statements are not yours to turn. If you find one false, say at which input.
  Laid BY PROGRAM, IN A SANDBOX (cutbox-rows.mjs): the forced cells as the released guide's own fill.sh prints them over the translation 9d1e5d3c4fe4af09… (all of the seat's roots in one cut). By AI agents, Wed Nov 11 2026. No macro, syntax, notation, axiom, sorry.
-/
import Derived.Test.YtpajcjcbfabcnaaChecked
import GoSem.Claim
import GoSem.ClaimJoined
import GoSem.ClaimMapViews
import Derived.JoinedTies
import Derived.KernelRfl
namespace Go.Proofs.Ytpajcjcbfabcnaa
/- THE CELL 'sum', in the pinned program and in every row, IS THE sha256 OF THE DUMP (.gsa) THAT YtpajcjcbfabcnaaProg.lean LOADS. Nothing in Lean hashes anything: it is a label: what it is worth is what the hold of that sum in a sandbox is worth. -/
noncomputable def Try.pinned : Pinned := { name := "ytpajcjcbfabcnaa", sum := "9d1e5d3c4fe4af09ed3f1ee4d2f2bbb4e60dd7bd770ae59dcb76fcfeacc589e9", checked := Try.checked }
namespace Rows
def none {H : Type} : Left H := { results := [], args := [] }

/-- 'rubriclaw05.NameLead': WHATEVER THE INPUT: true; the input reads as it did. -/
def nameLeadSpec : ChangeSpec := { name := "nameLead", fn := fun _ => fun
  | [d1, d2] => { results := [.lit (.bool true)], args := [d1, d2] }
  | _ => none }
def nameLeadRow : OpenClaim := { program := "ytpajcjcbfabcnaa", sum := "9d1e5d3c4fe4af09ed3f1ee4d2f2bbb4e60dd7bd770ae59dcb76fcfeacc589e9", func := "rubric/rubriclaw05.NameLead", spec := "nameLead", inPlace := ["internal/bytealg.IndexByteString", "internal/bytealg.IndexString"], unfollowed := true, recurses := true, named := ["internal/bytealg.MaxLen"], apart := false }
def NameLeadSaid : Prop := nameLeadRow.holds Try.pinned (OpenSpec.ofChange nameLeadSpec)

/-- ITS FALSE NEIGHBOUR: 'it returns false'. Refute it at one input. -/
def nameLeadWrong : ChangeSpec := { name := "nameLead", fn := fun _ => fun
  | [d1, d2] => { results := [.lit (.bool false)], args := [d1, d2] }
  | _ => none }
def NameLeadWrongFalsely : Prop := nameLeadRow.holds Try.pinned (OpenSpec.ofChange nameLeadWrong)

/-- 'rubriclaw05.NameIs': WHATEVER THE INPUT: true; the input reads as it did. -/
def nameIsSpec : ChangeSpec := { name := "nameIs", fn := fun _ => fun
  | [d] => { results := [.lit (.bool true)], args := [d] }
  | _ => none }
def nameIsRow : OpenClaim := { program := "ytpajcjcbfabcnaa", sum := "9d1e5d3c4fe4af09ed3f1ee4d2f2bbb4e60dd7bd770ae59dcb76fcfeacc589e9", func := "rubric/rubriclaw05.NameIs", spec := "nameIs", inPlace := ["internal/bytealg.IndexByteString", "internal/bytealg.IndexString"], unfollowed := true, recurses := true, named := ["internal/bytealg.MaxLen"], apart := false }
def NameIsSaid : Prop := nameIsRow.holds Try.pinned (OpenSpec.ofChange nameIsSpec)

/-- ITS FALSE NEIGHBOUR: 'it returns false'. Refute it at one input. -/
def nameIsWrong : ChangeSpec := { name := "nameIs", fn := fun _ => fun
  | [d] => { results := [.lit (.bool false)], args := [d] }
  | _ => none }
def NameIsWrongFalsely : Prop := nameIsRow.holds Try.pinned (OpenSpec.ofChange nameIsWrong)

/-- 'rubriclaw05.NameWithin': WHATEVER THE INPUT: true; the input reads as it did. -/
def nameWithinSpec : ChangeSpec := { name := "nameWithin", fn := fun _ => fun
  | [d] => { results := [.lit (.bool true)], args := [d] }
  | _ => none }
def nameWithinRow : OpenClaim := { program := "ytpajcjcbfabcnaa", sum := "9d1e5d3c4fe4af09ed3f1ee4d2f2bbb4e60dd7bd770ae59dcb76fcfeacc589e9", func := "rubric/rubriclaw05.NameWithin", spec := "nameWithin", inPlace := ["internal/bytealg.IndexByteString", "internal/bytealg.IndexString"], unfollowed := true, recurses := true, named := ["internal/bytealg.MaxLen"], apart := false }
def NameWithinSaid : Prop := nameWithinRow.holds Try.pinned (OpenSpec.ofChange nameWithinSpec)

/-- ITS FALSE NEIGHBOUR: 'it returns false'. Refute it at one input. -/
def nameWithinWrong : ChangeSpec := { name := "nameWithin", fn := fun _ => fun
  | [d] => { results := [.lit (.bool false)], args := [d] }
  | _ => none }
def NameWithinWrongFalsely : Prop := nameWithinRow.holds Try.pinned (OpenSpec.ofChange nameWithinWrong)

/-- 'rubriclaw05.NameSplit': WHATEVER THE INPUT: true; the input reads as it did. -/
def nameSplitSpec : ChangeSpec := { name := "nameSplit", fn := fun _ => fun
  | [d] => { results := [.lit (.bool true)], args := [d] }
  | _ => none }
def nameSplitRow : OpenClaim := { program := "ytpajcjcbfabcnaa", sum := "9d1e5d3c4fe4af09ed3f1ee4d2f2bbb4e60dd7bd770ae59dcb76fcfeacc589e9", func := "rubric/rubriclaw05.NameSplit", spec := "nameSplit", inPlace := ["internal/bytealg.IndexByteString", "internal/bytealg.IndexString"], unfollowed := true, recurses := true, named := ["internal/bytealg.MaxLen"], apart := false }
def NameSplitSaid : Prop := nameSplitRow.holds Try.pinned (OpenSpec.ofChange nameSplitSpec)

/-- ITS FALSE NEIGHBOUR: 'it returns false'. Refute it at one input. -/
def nameSplitWrong : ChangeSpec := { name := "nameSplit", fn := fun _ => fun
  | [d] => { results := [.lit (.bool false)], args := [d] }
  | _ => none }
def NameSplitWrongFalsely : Prop := nameSplitRow.holds Try.pinned (OpenSpec.ofChange nameSplitWrong)

/-- 'rubriclaw05.NameJoin': WHATEVER THE INPUT: true; the input reads as it did. -/
def nameJoinSpec : ChangeSpec := { name := "nameJoin", fn := fun _ => fun
  | [d1, d2] => { results := [.lit (.bool true)], args := [d1, d2] }
  | _ => none }
def nameJoinRow : OpenClaim := { program := "ytpajcjcbfabcnaa", sum := "9d1e5d3c4fe4af09ed3f1ee4d2f2bbb4e60dd7bd770ae59dcb76fcfeacc589e9", func := "rubric/rubriclaw05.NameJoin", spec := "nameJoin", inPlace := ["internal/bytealg.IndexByteString", "internal/bytealg.IndexString"], unfollowed := true, recurses := true, named := ["internal/bytealg.MaxLen"], apart := false }
def NameJoinSaid : Prop := nameJoinRow.holds Try.pinned (OpenSpec.ofChange nameJoinSpec)

/-- ITS FALSE NEIGHBOUR: 'it returns false'. Refute it at one input. -/
def nameJoinWrong : ChangeSpec := { name := "nameJoin", fn := fun _ => fun
  | [d1, d2] => { results := [.lit (.bool false)], args := [d1, d2] }
  | _ => none }
def NameJoinWrongFalsely : Prop := nameJoinRow.holds Try.pinned (OpenSpec.ofChange nameJoinWrong)

/-- 'rubriclaw05.NameWords': WHATEVER THE INPUT: true; the input reads as it did. -/
def nameWordsSpec : ChangeSpec := { name := "nameWords", fn := fun _ => fun
  | [d] => { results := [.lit (.bool true)], args := [d] }
  | _ => none }
def nameWordsRow : OpenClaim := { program := "ytpajcjcbfabcnaa", sum := "9d1e5d3c4fe4af09ed3f1ee4d2f2bbb4e60dd7bd770ae59dcb76fcfeacc589e9", func := "rubric/rubriclaw05.NameWords", spec := "nameWords", inPlace := ["internal/bytealg.IndexByteString", "internal/bytealg.IndexString"], unfollowed := true, recurses := true, named := ["internal/bytealg.MaxLen"], apart := false }
def NameWordsSaid : Prop := nameWordsRow.holds Try.pinned (OpenSpec.ofChange nameWordsSpec)

/-- ITS FALSE NEIGHBOUR: 'it returns false'. Refute it at one input. -/
def nameWordsWrong : ChangeSpec := { name := "nameWords", fn := fun _ => fun
  | [d] => { results := [.lit (.bool false)], args := [d] }
  | _ => none }
def NameWordsWrongFalsely : Prop := nameWordsRow.holds Try.pinned (OpenSpec.ofChange nameWordsWrong)

/- THE SECOND FORM. 'bulk': how many values and letters a reading holds, each counted each time it is reached (what is shared counts as often as it is met; a slice's spare places count too). A statement '..UptoSaid' is the law's where the arguments, and the package variables that the reading takes, are together of bulk at most 1048576: NARROWER than '..Said'. Prove '..Said' where nothing that the law and all that it calls make is longer than what came in: it says more and counts as full. Else prove '..UptoSaid'. A law counts once. -/
mutual
def uptoBulk {H : Type} : DataW H → Nat
  | .lit (.string bytes) => bytes.length + 1
  | .lit _ => 1
  | .nil => 1
  | .ptr d => uptoBulk d + 1
  | .slice elems spare => uptoBulkAll elems + uptoBulkAll spare + 1
  | .agg parts => uptoBulkAll parts + 1
  | .iface _ d => uptoBulk d + 1
  | .map entries => uptoBulkEntries entries + 1
  | .held _ => 1
def uptoBulkAll {H : Type} : List (DataW H) → Nat
  | [] => 0
  | d :: r => uptoBulk d + uptoBulkAll r
def uptoBulkEntries {H : Type} : List (Lit × DataW H) → Nat
  | [] => 0
  | x :: r => uptoBulkEntry x + uptoBulkEntries r
def uptoBulkEntry {H : Type} : Lit × DataW H → Nat
  | (.string bytes, d) => bytes.length + uptoBulk d + 1
  | (_, d) => uptoBulk d + 1
 end
def uptoSmall : (H : Type) → List (DataW H) → Bool := fun _ ds => decide (uptoBulkAll ds ≤ 1048576)
def OpenSpec.upto (s : _root_.Go.ChangeSpec) : _root_.Go.OpenSpec := { _root_.Go.OpenSpec.ofChange s with cond := some uptoSmall }

/-- 'rubriclaw05.NameLead', WHERE WHAT IT READS IS OF BULK AT MOST 1048576: true; the input reads as it did. -/
def nameLeadUptoRow : OpenClaim := { program := "ytpajcjcbfabcnaa", sum := "9d1e5d3c4fe4af09ed3f1ee4d2f2bbb4e60dd7bd770ae59dcb76fcfeacc589e9", func := "rubric/rubriclaw05.NameLead", spec := "nameLead", inPlace := ["internal/bytealg.IndexByteString", "internal/bytealg.IndexString"], unfollowed := true, recurses := true, named := ["internal/bytealg.MaxLen"], apart := false, narrowed := true }
def NameLeadUptoSaid : Prop := nameLeadUptoRow.holds Try.pinned (OpenSpec.upto nameLeadSpec)

/-- 'rubriclaw05.NameIs', WHERE WHAT IT READS IS OF BULK AT MOST 1048576: true; the input reads as it did. -/
def nameIsUptoRow : OpenClaim := { program := "ytpajcjcbfabcnaa", sum := "9d1e5d3c4fe4af09ed3f1ee4d2f2bbb4e60dd7bd770ae59dcb76fcfeacc589e9", func := "rubric/rubriclaw05.NameIs", spec := "nameIs", inPlace := ["internal/bytealg.IndexByteString", "internal/bytealg.IndexString"], unfollowed := true, recurses := true, named := ["internal/bytealg.MaxLen"], apart := false, narrowed := true }
def NameIsUptoSaid : Prop := nameIsUptoRow.holds Try.pinned (OpenSpec.upto nameIsSpec)

/-- 'rubriclaw05.NameWithin', WHERE WHAT IT READS IS OF BULK AT MOST 1048576: true; the input reads as it did. -/
def nameWithinUptoRow : OpenClaim := { program := "ytpajcjcbfabcnaa", sum := "9d1e5d3c4fe4af09ed3f1ee4d2f2bbb4e60dd7bd770ae59dcb76fcfeacc589e9", func := "rubric/rubriclaw05.NameWithin", spec := "nameWithin", inPlace := ["internal/bytealg.IndexByteString", "internal/bytealg.IndexString"], unfollowed := true, recurses := true, named := ["internal/bytealg.MaxLen"], apart := false, narrowed := true }
def NameWithinUptoSaid : Prop := nameWithinUptoRow.holds Try.pinned (OpenSpec.upto nameWithinSpec)

/-- 'rubriclaw05.NameSplit', WHERE WHAT IT READS IS OF BULK AT MOST 1048576: true; the input reads as it did. -/
def nameSplitUptoRow : OpenClaim := { program := "ytpajcjcbfabcnaa", sum := "9d1e5d3c4fe4af09ed3f1ee4d2f2bbb4e60dd7bd770ae59dcb76fcfeacc589e9", func := "rubric/rubriclaw05.NameSplit", spec := "nameSplit", inPlace := ["internal/bytealg.IndexByteString", "internal/bytealg.IndexString"], unfollowed := true, recurses := true, named := ["internal/bytealg.MaxLen"], apart := false, narrowed := true }
def NameSplitUptoSaid : Prop := nameSplitUptoRow.holds Try.pinned (OpenSpec.upto nameSplitSpec)

/-- 'rubriclaw05.NameJoin', WHERE WHAT IT READS IS OF BULK AT MOST 1048576: true; the input reads as it did. -/
def nameJoinUptoRow : OpenClaim := { program := "ytpajcjcbfabcnaa", sum := "9d1e5d3c4fe4af09ed3f1ee4d2f2bbb4e60dd7bd770ae59dcb76fcfeacc589e9", func := "rubric/rubriclaw05.NameJoin", spec := "nameJoin", inPlace := ["internal/bytealg.IndexByteString", "internal/bytealg.IndexString"], unfollowed := true, recurses := true, named := ["internal/bytealg.MaxLen"], apart := false, narrowed := true }
def NameJoinUptoSaid : Prop := nameJoinUptoRow.holds Try.pinned (OpenSpec.upto nameJoinSpec)

/-- 'rubriclaw05.NameWords', WHERE WHAT IT READS IS OF BULK AT MOST 1048576: true; the input reads as it did. -/
def nameWordsUptoRow : OpenClaim := { program := "ytpajcjcbfabcnaa", sum := "9d1e5d3c4fe4af09ed3f1ee4d2f2bbb4e60dd7bd770ae59dcb76fcfeacc589e9", func := "rubric/rubriclaw05.NameWords", spec := "nameWords", inPlace := ["internal/bytealg.IndexByteString", "internal/bytealg.IndexString"], unfollowed := true, recurses := true, named := ["internal/bytealg.MaxLen"], apart := false, narrowed := true }
def NameWordsUptoSaid : Prop := nameWordsUptoRow.holds Try.pinned (OpenSpec.upto nameWordsSpec)

end Rows
end Go.Proofs.Ytpajcjcbfabcnaa
