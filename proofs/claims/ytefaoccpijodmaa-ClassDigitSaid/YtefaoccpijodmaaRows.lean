/-
  No cell of these rows narrows 'for every input' (looked for: loops, veiled, ifaces, maps, wideKeys, modest, calm, conditions, laid).
  DERIVED. THE GIVEN ROWS OF THIS SEAT. 4 by the template 'for every input the law returns true; each argument reads behind the call as it read before'; 0 by the template 'total and deterministic' (their statements: YtefaoccpijodmaaTotals.lean).
  GIVEN WITH THE SEED: the statements are not yours to turn. If you find one false, say at which input.
  Laid BY PROGRAM, IN A SANDBOX (cutbox-rows.mjs): the forced cells as the released guide's own fill.sh prints them over the translation 95d4fe3b824040ec… (all of the seat's roots in one cut). By AI agents, Wed Nov 11 2026. No macro, syntax, notation, axiom, sorry.
-/
import Derived.Test.YtefaoccpijodmaaChecked
import GoSem.Claim
import GoSem.ClaimJoined
import GoSem.ClaimMapViews
import Derived.JoinedTies
import Derived.KernelRfl
namespace Go.Proofs.Ytefaoccpijodmaa
/- THE CELL 'sum', in the pinned program and in every row, IS THE sha256 OF THE DUMP (.gsa) THAT YtefaoccpijodmaaProg.lean LOADS. Nothing in Lean hashes anything: it is a label: what it is worth is what the hold of that sum in a sandbox is worth. -/
noncomputable def Try.pinned : Pinned := { name := "ytefaoccpijodmaa", sum := "95d4fe3b824040ecf798bc2b141750c5a705872531a5adb9fdc26628fe1b4ec8", checked := Try.checked }
namespace Rows
def none {H : Type} : Left H := { results := [], args := [] }

/-- 'rubriclaw04.ClassName': WHATEVER THE INPUT: true; the input reads as it did. -/
def classNameSpec : ChangeSpec := { name := "className", fn := fun _ => fun
  | [d] => { results := [.lit (.bool true)], args := [d] }
  | _ => none }
def classNameRow : OpenClaim := { program := "ytefaoccpijodmaa", sum := "95d4fe3b824040ecf798bc2b141750c5a705872531a5adb9fdc26628fe1b4ec8", func := "rubric/rubriclaw04.ClassName", spec := "className", apart := false }
def ClassNameSaid : Prop := classNameRow.holds Try.pinned (OpenSpec.ofChange classNameSpec)

/-- ITS FALSE NEIGHBOUR: 'it returns false'. Refute it at one input. -/
def classNameWrong : ChangeSpec := { name := "className", fn := fun _ => fun
  | [d] => { results := [.lit (.bool false)], args := [d] }
  | _ => none }
def ClassNameWrongFalsely : Prop := classNameRow.holds Try.pinned (OpenSpec.ofChange classNameWrong)

/-- 'rubriclaw04.ClassChar': WHATEVER THE INPUT: true; the input reads as it did. -/
def classCharSpec : ChangeSpec := { name := "classChar", fn := fun _ => fun
  | [d] => { results := [.lit (.bool true)], args := [d] }
  | _ => none }
def classCharRow : OpenClaim := { program := "ytefaoccpijodmaa", sum := "95d4fe3b824040ecf798bc2b141750c5a705872531a5adb9fdc26628fe1b4ec8", func := "rubric/rubriclaw04.ClassChar", spec := "classChar", inPlace := ["internal/bytealg.IndexByteString"], apart := false }
def ClassCharSaid : Prop := classCharRow.holds Try.pinned (OpenSpec.ofChange classCharSpec)

/-- ITS FALSE NEIGHBOUR: 'it returns false'. Refute it at one input. -/
def classCharWrong : ChangeSpec := { name := "classChar", fn := fun _ => fun
  | [d] => { results := [.lit (.bool false)], args := [d] }
  | _ => none }
def ClassCharWrongFalsely : Prop := classCharRow.holds Try.pinned (OpenSpec.ofChange classCharWrong)

/-- 'rubriclaw04.ClassWithin': WHATEVER THE INPUT: true; the input reads as it did. -/
def classWithinSpec : ChangeSpec := { name := "classWithin", fn := fun _ => fun
  | [d] => { results := [.lit (.bool true)], args := [d] }
  | _ => none }
def classWithinRow : OpenClaim := { program := "ytefaoccpijodmaa", sum := "95d4fe3b824040ecf798bc2b141750c5a705872531a5adb9fdc26628fe1b4ec8", func := "rubric/rubriclaw04.ClassWithin", spec := "classWithin", inPlace := ["internal/bytealg.IndexByteString"], apart := false }
def ClassWithinSaid : Prop := classWithinRow.holds Try.pinned (OpenSpec.ofChange classWithinSpec)

/-- ITS FALSE NEIGHBOUR: 'it returns false'. Refute it at one input. -/
def classWithinWrong : ChangeSpec := { name := "classWithin", fn := fun _ => fun
  | [d] => { results := [.lit (.bool false)], args := [d] }
  | _ => none }
def ClassWithinWrongFalsely : Prop := classWithinRow.holds Try.pinned (OpenSpec.ofChange classWithinWrong)

/-- 'rubriclaw04.ClassDigit': WHATEVER THE INPUT: true; the input reads as it did. -/
def classDigitSpec : ChangeSpec := { name := "classDigit", fn := fun _ => fun
  | [d] => { results := [.lit (.bool true)], args := [d] }
  | _ => none }
def classDigitRow : OpenClaim := { program := "ytefaoccpijodmaa", sum := "95d4fe3b824040ecf798bc2b141750c5a705872531a5adb9fdc26628fe1b4ec8", func := "rubric/rubriclaw04.ClassDigit", spec := "classDigit", apart := false }
def ClassDigitSaid : Prop := classDigitRow.holds Try.pinned (OpenSpec.ofChange classDigitSpec)

/-- ITS FALSE NEIGHBOUR: 'it returns false'. Refute it at one input. -/
def classDigitWrong : ChangeSpec := { name := "classDigit", fn := fun _ => fun
  | [d] => { results := [.lit (.bool false)], args := [d] }
  | _ => none }
def ClassDigitWrongFalsely : Prop := classDigitRow.holds Try.pinned (OpenSpec.ofChange classDigitWrong)

/- THE SECOND FORM. 'bulk': how many values and letters a reading holds, each counted each time it is reached (what is shared counts as often as it is met; a slice's spare places count too). A statement '..UptoSaid' is the law's where the arguments, and the package variables that the reading takes, are together of bulk at most 1048576: NARROWER than '..Said'. Prove '..Said' where nothing that the law and all that it calls make is longer than what came in: it says more and counts as full. Else prove '..UptoSaid'. A law counts once. -/
mutual
def uptoBulk {H : Type} : DataW H → Nat
  | .lit (.string bytes) => bytes.length + 1
  | .lit _ => 1
  | .nil => 1
  | .ptr d => uptoBulk d + 1
  | .slice elems spare => uptoBulkAll elems + uptoBulkAll spare + 1
  | .agg parts => uptoBulkAll parts + 1
  | .iface _ d => uptoBulk d + 1
  | .map entries => uptoBulkEntries entries + 1
  | .held _ => 1
def uptoBulkAll {H : Type} : List (DataW H) → Nat
  | [] => 0
  | d :: r => uptoBulk d + uptoBulkAll r
def uptoBulkEntries {H : Type} : List (Lit × DataW H) → Nat
  | [] => 0
  | x :: r => uptoBulkEntry x + uptoBulkEntries r
def uptoBulkEntry {H : Type} : Lit × DataW H → Nat
  | (.string bytes, d) => bytes.length + uptoBulk d + 1
  | (_, d) => uptoBulk d + 1
 end
def uptoSmall : (H : Type) → List (DataW H) → Bool := fun _ ds => decide (uptoBulkAll ds ≤ 1048576)
def OpenSpec.upto (s : _root_.Go.ChangeSpec) : _root_.Go.OpenSpec := { _root_.Go.OpenSpec.ofChange s with cond := some uptoSmall }

/-- 'rubriclaw04.ClassName', WHERE WHAT IT READS IS OF BULK AT MOST 1048576: true; the input reads as it did. -/
def classNameUptoRow : OpenClaim := { program := "ytefaoccpijodmaa", sum := "95d4fe3b824040ecf798bc2b141750c5a705872531a5adb9fdc26628fe1b4ec8", func := "rubric/rubriclaw04.ClassName", spec := "className", apart := false, narrowed := true }
def ClassNameUptoSaid : Prop := classNameUptoRow.holds Try.pinned (OpenSpec.upto classNameSpec)

/-- 'rubriclaw04.ClassChar', WHERE WHAT IT READS IS OF BULK AT MOST 1048576: true; the input reads as it did. -/
def classCharUptoRow : OpenClaim := { program := "ytefaoccpijodmaa", sum := "95d4fe3b824040ecf798bc2b141750c5a705872531a5adb9fdc26628fe1b4ec8", func := "rubric/rubriclaw04.ClassChar", spec := "classChar", inPlace := ["internal/bytealg.IndexByteString"], apart := false, narrowed := true }
def ClassCharUptoSaid : Prop := classCharUptoRow.holds Try.pinned (OpenSpec.upto classCharSpec)

/-- 'rubriclaw04.ClassWithin', WHERE WHAT IT READS IS OF BULK AT MOST 1048576: true; the input reads as it did. -/
def classWithinUptoRow : OpenClaim := { program := "ytefaoccpijodmaa", sum := "95d4fe3b824040ecf798bc2b141750c5a705872531a5adb9fdc26628fe1b4ec8", func := "rubric/rubriclaw04.ClassWithin", spec := "classWithin", inPlace := ["internal/bytealg.IndexByteString"], apart := false, narrowed := true }
def ClassWithinUptoSaid : Prop := classWithinUptoRow.holds Try.pinned (OpenSpec.upto classWithinSpec)

/-- 'rubriclaw04.ClassDigit', WHERE WHAT IT READS IS OF BULK AT MOST 1048576: true; the input reads as it did. -/
def classDigitUptoRow : OpenClaim := { program := "ytefaoccpijodmaa", sum := "95d4fe3b824040ecf798bc2b141750c5a705872531a5adb9fdc26628fe1b4ec8", func := "rubric/rubriclaw04.ClassDigit", spec := "classDigit", apart := false, narrowed := true }
def ClassDigitUptoSaid : Prop := classDigitUptoRow.holds Try.pinned (OpenSpec.upto classDigitSpec)

end Rows
end Go.Proofs.Ytefaoccpijodmaa
