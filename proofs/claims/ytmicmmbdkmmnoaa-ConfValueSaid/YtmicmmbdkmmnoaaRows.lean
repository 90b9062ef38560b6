/-
  No cell of these rows narrows 'for every input' (looked for: loops, veiled, ifaces, maps, wideKeys, modest, calm, conditions, laid).
  DERIVED. THE GIVEN ROWS OF THIS SEAT. 4 by the template 'for every input the law returns true; each argument reads behind the call as it read before'; 0 by the template 'total and deterministic' (their statements: YtmicmmbdkmmnoaaTotals.lean).
  GIVEN WITH THE SEED: the statements are not yours to turn. If you find one false, say at which input.
  Laid BY PROGRAM, IN A SANDBOX (cutbox-rows.mjs): the forced cells as the released guide's own fill.sh prints them over the translation c872fe7f76c39382… (all of the seat's roots in one cut). By AI agents, Wed Nov 11 2026. No macro, syntax, notation, axiom, sorry.
-/
import Derived.Test.YtmicmmbdkmmnoaaChecked
import GoSem.Claim
import GoSem.ClaimJoined
import GoSem.ClaimMapViews
import Derived.JoinedTies
import Derived.KernelRfl
namespace Go.Proofs.Ytmicmmbdkmmnoaa
/- THE CELL 'sum', in the pinned program and in every row, IS THE sha256 OF THE DUMP (.gsa) THAT YtmicmmbdkmmnoaaProg.lean LOADS. Nothing in Lean hashes anything: it is a label: what it is worth is what the hold of that sum in a sandbox is worth. -/
noncomputable def Try.pinned : Pinned := { name := "ytmicmmbdkmmnoaa", sum := "c872fe7f76c39382dda25fbade7b61d2f17cfa878fb29bd05def6912eb272c41", checked := Try.checked }
namespace Rows
def none {H : Type} : Left H := { results := [], args := [] }

/-- 'rubriclaw30.ConfParses': WHATEVER THE INPUT: true; the input reads as it did. -/
def confParsesSpec : ChangeSpec := { name := "confParses", fn := fun _ => fun
  | [d] => { results := [.lit (.bool true)], args := [d] }
  | _ => none }
def confParsesRow : OpenClaim := { program := "ytmicmmbdkmmnoaa", sum := "c872fe7f76c39382dda25fbade7b61d2f17cfa878fb29bd05def6912eb272c41", func := "rubric/rubriclaw30.ConfParses", spec := "confParses", unfollowed := true, recurses := true, apart := false }
def ConfParsesSaid : Prop := confParsesRow.holds Try.pinned (OpenSpec.ofChange confParsesSpec)

/-- ITS FALSE NEIGHBOUR: 'it returns false'. Refute it at one input. -/
def confParsesWrong : ChangeSpec := { name := "confParses", fn := fun _ => fun
  | [d] => { results := [.lit (.bool false)], args := [d] }
  | _ => none }
def ConfParsesWrongFalsely : Prop := confParsesRow.holds Try.pinned (OpenSpec.ofChange confParsesWrong)

/-- 'rubriclaw30.ConfClamps': WHATEVER THE INPUT: true; the input reads as it did. -/
def confClampsSpec : ChangeSpec := { name := "confClamps", fn := fun _ => fun
  | [d1, d2] => { results := [.lit (.bool true)], args := [d1, d2] }
  | _ => none }
def confClampsRow : OpenClaim := { program := "ytmicmmbdkmmnoaa", sum := "c872fe7f76c39382dda25fbade7b61d2f17cfa878fb29bd05def6912eb272c41", func := "rubric/rubriclaw30.ConfClamps", spec := "confClamps", unfollowed := true, recurses := true, apart := false }
def ConfClampsSaid : Prop := confClampsRow.holds Try.pinned (OpenSpec.ofChange confClampsSpec)

/-- ITS FALSE NEIGHBOUR: 'it returns false'. Refute it at one input. -/
def confClampsWrong : ChangeSpec := { name := "confClamps", fn := fun _ => fun
  | [d1, d2] => { results := [.lit (.bool false)], args := [d1, d2] }
  | _ => none }
def ConfClampsWrongFalsely : Prop := confClampsRow.holds Try.pinned (OpenSpec.ofChange confClampsWrong)

/-- 'rubriclaw30.ConfText': WHATEVER THE INPUT: true; the input reads as it did. -/
def confTextSpec : ChangeSpec := { name := "confText", fn := fun _ => fun
  | [d] => { results := [.lit (.bool true)], args := [d] }
  | _ => none }
def confTextRow : OpenClaim := { program := "ytmicmmbdkmmnoaa", sum := "c872fe7f76c39382dda25fbade7b61d2f17cfa878fb29bd05def6912eb272c41", func := "rubric/rubriclaw30.ConfText", spec := "confText", inPlace := ["internal/abi.NoEscape", "internal/bytealg.MakeNoZero"], unfollowed := true, recurses := true, apart := false }
def ConfTextSaid : Prop := confTextRow.holds Try.pinned (OpenSpec.ofChange confTextSpec)

/-- ITS FALSE NEIGHBOUR: 'it returns false'. Refute it at one input. -/
def confTextWrong : ChangeSpec := { name := "confText", fn := fun _ => fun
  | [d] => { results := [.lit (.bool false)], args := [d] }
  | _ => none }
def ConfTextWrongFalsely : Prop := confTextRow.holds Try.pinned (OpenSpec.ofChange confTextWrong)

/-- 'rubriclaw30.ConfValue': WHATEVER THE INPUT: true; the input reads as it did. -/
def confValueSpec : ChangeSpec := { name := "confValue", fn := fun _ => fun
  | [d1, d2] => { results := [.lit (.bool true)], args := [d1, d2] }
  | _ => none }
def confValueRow : OpenClaim := { program := "ytmicmmbdkmmnoaa", sum := "c872fe7f76c39382dda25fbade7b61d2f17cfa878fb29bd05def6912eb272c41", func := "rubric/rubriclaw30.ConfValue", spec := "confValue", unfollowed := true, recurses := true, apart := false }
def ConfValueSaid : Prop := confValueRow.holds Try.pinned (OpenSpec.ofChange confValueSpec)

/-- ITS FALSE NEIGHBOUR: 'it returns false'. Refute it at one input. -/
def confValueWrong : ChangeSpec := { name := "confValue", fn := fun _ => fun
  | [d1, d2] => { results := [.lit (.bool false)], args := [d1, d2] }
  | _ => none }
def ConfValueWrongFalsely : Prop := confValueRow.holds Try.pinned (OpenSpec.ofChange confValueWrong)

/- THE SECOND FORM. 'bulk': how many values and letters a reading holds, each counted each time it is reached (what is shared counts as often as it is met; a slice's spare places count too). A statement '..UptoSaid' is the law's where the arguments, and the package variables that the reading takes, are together of bulk at most 1048576: NARROWER than '..Said'. Prove '..Said' where nothing that the law and all that it calls make is longer than what came in: it says more and counts as full. Else prove '..UptoSaid'. A law counts once. -/
mutual
def uptoBulk {H : Type} : DataW H → Nat
  | .lit (.string bytes) => bytes.length + 1
  | .lit _ => 1
  | .nil => 1
  | .ptr d => uptoBulk d + 1
  | .slice elems spare => uptoBulkAll elems + uptoBulkAll spare + 1
  | .agg parts => uptoBulkAll parts + 1
  | .iface _ d => uptoBulk d + 1
  | .map entries => uptoBulkEntries entries + 1
  | .held _ => 1
def uptoBulkAll {H : Type} : List (DataW H) → Nat
  | [] => 0
  | d :: r => uptoBulk d + uptoBulkAll r
def uptoBulkEntries {H : Type} : List (Lit × DataW H) → Nat
  | [] => 0
  | x :: r => uptoBulkEntry x + uptoBulkEntries r
def uptoBulkEntry {H : Type} : Lit × DataW H → Nat
  | (.string bytes, d) => bytes.length + uptoBulk d + 1
  | (_, d) => uptoBulk d + 1
 end
def uptoSmall : (H : Type) → List (DataW H) → Bool := fun _ ds => decide (uptoBulkAll ds ≤ 1048576)
def OpenSpec.upto (s : _root_.Go.ChangeSpec) : _root_.Go.OpenSpec := { _root_.Go.OpenSpec.ofChange s with cond := some uptoSmall }

/-- 'rubriclaw30.ConfParses', WHERE WHAT IT READS IS OF BULK AT MOST 1048576: true; the input reads as it did. -/
def confParsesUptoRow : OpenClaim := { program := "ytmicmmbdkmmnoaa", sum := "c872fe7f76c39382dda25fbade7b61d2f17cfa878fb29bd05def6912eb272c41", func := "rubric/rubriclaw30.ConfParses", spec := "confParses", unfollowed := true, recurses := true, apart := false, narrowed := true }
def ConfParsesUptoSaid : Prop := confParsesUptoRow.holds Try.pinned (OpenSpec.upto confParsesSpec)

/-- 'rubriclaw30.ConfClamps', WHERE WHAT IT READS IS OF BULK AT MOST 1048576: true; the input reads as it did. -/
def confClampsUptoRow : OpenClaim := { program := "ytmicmmbdkmmnoaa", sum := "c872fe7f76c39382dda25fbade7b61d2f17cfa878fb29bd05def6912eb272c41", func := "rubric/rubriclaw30.ConfClamps", spec := "confClamps", unfollowed := true, recurses := true, apart := false, narrowed := true }
def ConfClampsUptoSaid : Prop := confClampsUptoRow.holds Try.pinned (OpenSpec.upto confClampsSpec)

/-- 'rubriclaw30.ConfText', WHERE WHAT IT READS IS OF BULK AT MOST 1048576: true; the input reads as it did. -/
def confTextUptoRow : OpenClaim := { program := "ytmicmmbdkmmnoaa", sum := "c872fe7f76c39382dda25fbade7b61d2f17cfa878fb29bd05def6912eb272c41", func := "rubric/rubriclaw30.ConfText", spec := "confText", inPlace := ["internal/abi.NoEscape", "internal/bytealg.MakeNoZero"], unfollowed := true, recurses := true, apart := false, narrowed := true }
def ConfTextUptoSaid : Prop := confTextUptoRow.holds Try.pinned (OpenSpec.upto confTextSpec)

/-- 'rubriclaw30.ConfValue', WHERE WHAT IT READS IS OF BULK AT MOST 1048576: true; the input reads as it did. -/
def confValueUptoRow : OpenClaim := { program := "ytmicmmbdkmmnoaa", sum := "c872fe7f76c39382dda25fbade7b61d2f17cfa878fb29bd05def6912eb272c41", func := "rubric/rubriclaw30.ConfValue", spec := "confValue", unfollowed := true, recurses := true, apart := false, narrowed := true }
def ConfValueUptoSaid : Prop := confValueUptoRow.holds Try.pinned (OpenSpec.upto confValueSpec)

end Rows
end Go.Proofs.Ytmicmmbdkmmnoaa
