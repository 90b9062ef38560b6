/-
  NARROWER THAN 'FOR EVERY INPUT', by the rows' own cells (each row's printed sentence says how): InfoMerged: loops · InfoAt: loops · InfoWith: loops · InfoSame: loops.
  DERIVED. THE GIVEN ROWS OF THIS SEAT. 4 by the template 'for every input the law returns true; each argument reads behind the call as it read before'; 0 by the template 'total and deterministic' (their statements: YtnlncamiaddhfaaTotals.lean).
  GIVEN WITH THE SEED: the statements are not yours to turn. If you find one false, say at which input.
  Laid BY PROGRAM, IN A SANDBOX (cutbox-rows.mjs): the forced cells as the released guide's own fill.sh prints them over the translation 5f0ec86081b40900… (all of the seat's roots in one cut). By AI agents, Wed Nov 11 2026. No macro, syntax, notation, axiom, sorry.
-/
import Derived.Test.YtnlncamiaddhfaaChecked
import GoSem.Claim
import GoSem.ClaimJoined
import GoSem.ClaimMapViews
import Derived.JoinedTies
import Derived.KernelRfl
namespace Go.Proofs.Ytnlncamiaddhfaa
/- THE CELL 'sum', in the pinned program and in every row, IS THE sha256 OF THE DUMP (.gsa) THAT YtnlncamiaddhfaaProg.lean LOADS. Nothing in Lean hashes anything: it is a label: what it is worth is what the hold of that sum in a sandbox is worth. -/
noncomputable def Try.pinned : Pinned := { name := "ytnlncamiaddhfaa", sum := "5f0ec86081b4090053ed6ee16341239a8056c647b23d35257c9bee37d0333855", checked := Try.checked }
namespace Rows
def none {H : Type} : Left H := { results := [], args := [] }

/-- 'rubriclaw20.InfoMerged': WHATEVER THE INPUT: true; the input reads as it did. -/
def infoMergedSpec : ChangeSpec := { name := "infoMerged", fn := fun _ => fun
  | [d] => { results := [.lit (.bool true)], args := [d] }
  | _ => none }
def infoMergedRow : OpenClaim := { program := "ytnlncamiaddhfaa", sum := "5f0ec86081b4090053ed6ee16341239a8056c647b23d35257c9bee37d0333855", func := "rubric/rubriclaw20.InfoMerged", spec := "infoMerged", recurses := true, loops := true, apart := false }
def InfoMergedSaid : Prop := infoMergedRow.holds Try.pinned (OpenSpec.ofChange infoMergedSpec)

/-- ITS FALSE NEIGHBOUR: 'it returns false'. Refute it at one input. -/
def infoMergedWrong : ChangeSpec := { name := "infoMerged", fn := fun _ => fun
  | [d] => { results := [.lit (.bool false)], args := [d] }
  | _ => none }
def InfoMergedWrongFalsely : Prop := infoMergedRow.holds Try.pinned (OpenSpec.ofChange infoMergedWrong)

/-- 'rubriclaw20.InfoAt': WHATEVER THE INPUT: true; the input reads as it did. -/
def infoAtSpec : ChangeSpec := { name := "infoAt", fn := fun _ => fun
  | [d1, d2] => { results := [.lit (.bool true)], args := [d1, d2] }
  | _ => none }
def infoAtRow : OpenClaim := { program := "ytnlncamiaddhfaa", sum := "5f0ec86081b4090053ed6ee16341239a8056c647b23d35257c9bee37d0333855", func := "rubric/rubriclaw20.InfoAt", spec := "infoAt", recurses := true, loops := true, apart := false }
def InfoAtSaid : Prop := infoAtRow.holds Try.pinned (OpenSpec.ofChange infoAtSpec)

/-- ITS FALSE NEIGHBOUR: 'it returns false'. Refute it at one input. -/
def infoAtWrong : ChangeSpec := { name := "infoAt", fn := fun _ => fun
  | [d1, d2] => { results := [.lit (.bool false)], args := [d1, d2] }
  | _ => none }
def InfoAtWrongFalsely : Prop := infoAtRow.holds Try.pinned (OpenSpec.ofChange infoAtWrong)

/-- 'rubriclaw20.InfoWith': WHATEVER THE INPUT: true; the input reads as it did. -/
def infoWithSpec : ChangeSpec := { name := "infoWith", fn := fun _ => fun
  | [d1, d2, d3] => { results := [.lit (.bool true)], args := [d1, d2, d3] }
  | _ => none }
def infoWithRow : OpenClaim := { program := "ytnlncamiaddhfaa", sum := "5f0ec86081b4090053ed6ee16341239a8056c647b23d35257c9bee37d0333855", func := "rubric/rubriclaw20.InfoWith", spec := "infoWith", unfollowed := true, recurses := true, loops := true, apart := false }
def InfoWithSaid : Prop := infoWithRow.holds Try.pinned (OpenSpec.ofChange infoWithSpec)

/-- ITS FALSE NEIGHBOUR: 'it returns false'. Refute it at one input. -/
def infoWithWrong : ChangeSpec := { name := "infoWith", fn := fun _ => fun
  | [d1, d2, d3] => { results := [.lit (.bool false)], args := [d1, d2, d3] }
  | _ => none }
def InfoWithWrongFalsely : Prop := infoWithRow.holds Try.pinned (OpenSpec.ofChange infoWithWrong)

/-- 'rubriclaw20.InfoSame': WHATEVER THE INPUT: true; the input reads as it did. -/
def infoSameSpec : ChangeSpec := { name := "infoSame", fn := fun _ => fun
  | [d1, d2] => { results := [.lit (.bool true)], args := [d1, d2] }
  | _ => none }
def infoSameRow : OpenClaim := { program := "ytnlncamiaddhfaa", sum := "5f0ec86081b4090053ed6ee16341239a8056c647b23d35257c9bee37d0333855", func := "rubric/rubriclaw20.InfoSame", spec := "infoSame", unfollowed := true, recurses := true, loops := true, apart := false }
def InfoSameSaid : Prop := infoSameRow.holds Try.pinned (OpenSpec.ofChange infoSameSpec)

/-- ITS FALSE NEIGHBOUR: 'it returns false'. Refute it at one input. -/
def infoSameWrong : ChangeSpec := { name := "infoSame", fn := fun _ => fun
  | [d1, d2] => { results := [.lit (.bool false)], args := [d1, d2] }
  | _ => none }
def InfoSameWrongFalsely : Prop := infoSameRow.holds Try.pinned (OpenSpec.ofChange infoSameWrong)

/- THE SECOND FORM. 'bulk': how many values and letters a reading holds, each counted each time it is reached (what is shared counts as often as it is met; a slice's spare places count too). A statement '..UptoSaid' is the law's where the arguments, and the package variables that the reading takes, are together of bulk at most 1048576: NARROWER than '..Said'. Prove '..Said' where nothing that the law and all that it calls make is longer than what came in: it says more and counts as full. Else prove '..UptoSaid'. A law counts once. -/
mutual
def uptoBulk {H : Type} : DataW H → Nat
  | .lit (.string bytes) => bytes.length + 1
  | .lit _ => 1
  | .nil => 1
  | .ptr d => uptoBulk d + 1
  | .slice elems spare => uptoBulkAll elems + uptoBulkAll spare + 1
  | .agg parts => uptoBulkAll parts + 1
  | .iface _ d => uptoBulk d + 1
  | .map entries => uptoBulkEntries entries + 1
  | .held _ => 1
def uptoBulkAll {H : Type} : List (DataW H) → Nat
  | [] => 0
  | d :: r => uptoBulk d + uptoBulkAll r
def uptoBulkEntries {H : Type} : List (Lit × DataW H) → Nat
  | [] => 0
  | x :: r => uptoBulkEntry x + uptoBulkEntries r
def uptoBulkEntry {H : Type} : Lit × DataW H → Nat
  | (.string bytes, d) => bytes.length + uptoBulk d + 1
  | (_, d) => uptoBulk d + 1
 end
def uptoSmall : (H : Type) → List (DataW H) → Bool := fun _ ds => decide (uptoBulkAll ds ≤ 1048576)
def OpenSpec.upto (s : _root_.Go.ChangeSpec) : _root_.Go.OpenSpec := { _root_.Go.OpenSpec.ofChange s with cond := some uptoSmall }

/-- 'rubriclaw20.InfoMerged', WHERE WHAT IT READS IS OF BULK AT MOST 1048576: true; the input reads as it did. -/
def infoMergedUptoRow : OpenClaim := { program := "ytnlncamiaddhfaa", sum := "5f0ec86081b4090053ed6ee16341239a8056c647b23d35257c9bee37d0333855", func := "rubric/rubriclaw20.InfoMerged", spec := "infoMerged", recurses := true, loops := true, apart := false, narrowed := true }
def InfoMergedUptoSaid : Prop := infoMergedUptoRow.holds Try.pinned (OpenSpec.upto infoMergedSpec)

/-- 'rubriclaw20.InfoAt', WHERE WHAT IT READS IS OF BULK AT MOST 1048576: true; the input reads as it did. -/
def infoAtUptoRow : OpenClaim := { program := "ytnlncamiaddhfaa", sum := "5f0ec86081b4090053ed6ee16341239a8056c647b23d35257c9bee37d0333855", func := "rubric/rubriclaw20.InfoAt", spec := "infoAt", recurses := true, loops := true, apart := false, narrowed := true }
def InfoAtUptoSaid : Prop := infoAtUptoRow.holds Try.pinned (OpenSpec.upto infoAtSpec)

/-- 'rubriclaw20.InfoWith', WHERE WHAT IT READS IS OF BULK AT MOST 1048576: true; the input reads as it did. -/
def infoWithUptoRow : OpenClaim := { program := "ytnlncamiaddhfaa", sum := "5f0ec86081b4090053ed6ee16341239a8056c647b23d35257c9bee37d0333855", func := "rubric/rubriclaw20.InfoWith", spec := "infoWith", unfollowed := true, recurses := true, loops := true, apart := false, narrowed := true }
def InfoWithUptoSaid : Prop := infoWithUptoRow.holds Try.pinned (OpenSpec.upto infoWithSpec)

/-- 'rubriclaw20.InfoSame', WHERE WHAT IT READS IS OF BULK AT MOST 1048576: true; the input reads as it did. -/
def infoSameUptoRow : OpenClaim := { program := "ytnlncamiaddhfaa", sum := "5f0ec86081b4090053ed6ee16341239a8056c647b23d35257c9bee37d0333855", func := "rubric/rubriclaw20.InfoSame", spec := "infoSame", unfollowed := true, recurses := true, loops := true, apart := false, narrowed := true }
def InfoSameUptoSaid : Prop := infoSameUptoRow.holds Try.pinned (OpenSpec.upto infoSameSpec)

end Rows
end Go.Proofs.Ytnlncamiaddhfaa
