/-
  No cell of these rows narrows 'for every input' (looked for: loops, veiled, ifaces, maps, wideKeys, modest, calm, conditions, laid).
  DERIVED. THE GIVEN ROWS OF THIS SEAT. 6 by the template 'for every input the law returns true; each argument reads behind the call as it read before'; 0 by the template 'total and deterministic' (their statements: YtdcigdkeakiknaaTotals.lean).
  GIVEN WITH THE SEED: the statements are not yours to turn. If you find one false, say at which input.
  Laid BY PROGRAM, IN A SANDBOX (cutbox-rows.mjs): the forced cells as the released guide's own fill.sh prints them over the translation f2ba047a2a716c33… (all of the seat's roots in one cut). By AI agents, Wed Nov 11 2026. No macro, syntax, notation, axiom, sorry.
-/
import Derived.Test.YtdcigdkeakiknaaChecked
import GoSem.Claim
import GoSem.ClaimJoined
import GoSem.ClaimMapViews
import Derived.JoinedTies
import Derived.KernelRfl
namespace Go.Proofs.Ytdcigdkeakiknaa
/- THE CELL 'sum', in the pinned program and in every row, IS THE sha256 OF THE DUMP (.gsa) THAT YtdcigdkeakiknaaProg.lean LOADS. Nothing in Lean hashes anything: it is a label: what it is worth is what the hold of that sum in a sandbox is worth. -/
noncomputable def Try.pinned : Pinned := { name := "ytdcigdkeakiknaa", sum := "f2ba047a2a716c3362ead241d037c29e6830e3b1d3e40196ae417de2c09a05f8", checked := Try.checked }
namespace Rows
def none {H : Type} : Left H := { results := [], args := [] }

/-- 'rubriclaw06.SpanLine': WHATEVER THE INPUT: true; the input reads as it did. -/
def spanLineSpec : ChangeSpec := { name := "spanLine", fn := fun _ => fun
  | [d1, d2] => { results := [.lit (.bool true)], args := [d1, d2] }
  | _ => none }
def spanLineRow : OpenClaim := { program := "ytdcigdkeakiknaa", sum := "f2ba047a2a716c3362ead241d037c29e6830e3b1d3e40196ae417de2c09a05f8", func := "rubric/rubriclaw06.SpanLine", spec := "spanLine", apart := false }
def SpanLineSaid : Prop := spanLineRow.holds Try.pinned (OpenSpec.ofChange spanLineSpec)

/-- ITS FALSE NEIGHBOUR: 'it returns false'. Refute it at one input. -/
def spanLineWrong : ChangeSpec := { name := "spanLine", fn := fun _ => fun
  | [d1, d2] => { results := [.lit (.bool false)], args := [d1, d2] }
  | _ => none }
def SpanLineWrongFalsely : Prop := spanLineRow.holds Try.pinned (OpenSpec.ofChange spanLineWrong)

/-- 'rubriclaw06.SpanLen': WHATEVER THE INPUT: true; the input reads as it did. -/
def spanLenSpec : ChangeSpec := { name := "spanLen", fn := fun _ => fun
  | [d] => { results := [.lit (.bool true)], args := [d] }
  | _ => none }
def spanLenRow : OpenClaim := { program := "ytdcigdkeakiknaa", sum := "f2ba047a2a716c3362ead241d037c29e6830e3b1d3e40196ae417de2c09a05f8", func := "rubric/rubriclaw06.SpanLen", spec := "spanLen", apart := false }
def SpanLenSaid : Prop := spanLenRow.holds Try.pinned (OpenSpec.ofChange spanLenSpec)

/-- ITS FALSE NEIGHBOUR: 'it returns false'. Refute it at one input. -/
def spanLenWrong : ChangeSpec := { name := "spanLen", fn := fun _ => fun
  | [d] => { results := [.lit (.bool false)], args := [d] }
  | _ => none }
def SpanLenWrongFalsely : Prop := spanLenRow.holds Try.pinned (OpenSpec.ofChange spanLenWrong)

/-- 'rubriclaw06.SpanHas': WHATEVER THE INPUT: true; the input reads as it did. -/
def spanHasSpec : ChangeSpec := { name := "spanHas", fn := fun _ => fun
  | [d1, d2, d3] => { results := [.lit (.bool true)], args := [d1, d2, d3] }
  | _ => none }
def spanHasRow : OpenClaim := { program := "ytdcigdkeakiknaa", sum := "f2ba047a2a716c3362ead241d037c29e6830e3b1d3e40196ae417de2c09a05f8", func := "rubric/rubriclaw06.SpanHas", spec := "spanHas", apart := false }
def SpanHasSaid : Prop := spanHasRow.holds Try.pinned (OpenSpec.ofChange spanHasSpec)

/-- ITS FALSE NEIGHBOUR: 'it returns false'. Refute it at one input. -/
def spanHasWrong : ChangeSpec := { name := "spanHas", fn := fun _ => fun
  | [d1, d2, d3] => { results := [.lit (.bool false)], args := [d1, d2, d3] }
  | _ => none }
def SpanHasWrongFalsely : Prop := spanHasRow.holds Try.pinned (OpenSpec.ofChange spanHasWrong)

/-- 'rubriclaw06.SpanReplace': WHATEVER THE INPUT: true; the input reads as it did. -/
def spanReplaceSpec : ChangeSpec := { name := "spanReplace", fn := fun _ => fun
  | [d1, d2, d3, d4] => { results := [.lit (.bool true)], args := [d1, d2, d3, d4] }
  | _ => none }
def spanReplaceRow : OpenClaim := { program := "ytdcigdkeakiknaa", sum := "f2ba047a2a716c3362ead241d037c29e6830e3b1d3e40196ae417de2c09a05f8", func := "rubric/rubriclaw06.SpanReplace", spec := "spanReplace", apart := false }
def SpanReplaceSaid : Prop := spanReplaceRow.holds Try.pinned (OpenSpec.ofChange spanReplaceSpec)

/-- ITS FALSE NEIGHBOUR: 'it returns false'. Refute it at one input. -/
def spanReplaceWrong : ChangeSpec := { name := "spanReplace", fn := fun _ => fun
  | [d1, d2, d3, d4] => { results := [.lit (.bool false)], args := [d1, d2, d3, d4] }
  | _ => none }
def SpanReplaceWrongFalsely : Prop := spanReplaceRow.holds Try.pinned (OpenSpec.ofChange spanReplaceWrong)

/-- 'rubriclaw06.SpanShift': WHATEVER THE INPUT: true; the input reads as it did. -/
def spanShiftSpec : ChangeSpec := { name := "spanShift", fn := fun _ => fun
  | [d1, d2, d3] => { results := [.lit (.bool true)], args := [d1, d2, d3] }
  | _ => none }
def spanShiftRow : OpenClaim := { program := "ytdcigdkeakiknaa", sum := "f2ba047a2a716c3362ead241d037c29e6830e3b1d3e40196ae417de2c09a05f8", func := "rubric/rubriclaw06.SpanShift", spec := "spanShift", apart := false }
def SpanShiftSaid : Prop := spanShiftRow.holds Try.pinned (OpenSpec.ofChange spanShiftSpec)

/-- ITS FALSE NEIGHBOUR: 'it returns false'. Refute it at one input. -/
def spanShiftWrong : ChangeSpec := { name := "spanShift", fn := fun _ => fun
  | [d1, d2, d3] => { results := [.lit (.bool false)], args := [d1, d2, d3] }
  | _ => none }
def SpanShiftWrongFalsely : Prop := spanShiftRow.holds Try.pinned (OpenSpec.ofChange spanShiftWrong)

/-- 'rubriclaw06.SpanSorted': WHATEVER THE INPUT: true; the input reads as it did. -/
def spanSortedSpec : ChangeSpec := { name := "spanSorted", fn := fun _ => fun
  | [d] => { results := [.lit (.bool true)], args := [d] }
  | _ => none }
def spanSortedRow : OpenClaim := { program := "ytdcigdkeakiknaa", sum := "f2ba047a2a716c3362ead241d037c29e6830e3b1d3e40196ae417de2c09a05f8", func := "rubric/rubriclaw06.SpanSorted", spec := "spanSorted", unfollowed := true, recurses := true, apart := false }
def SpanSortedSaid : Prop := spanSortedRow.holds Try.pinned (OpenSpec.ofChange spanSortedSpec)

/-- ITS FALSE NEIGHBOUR: 'it returns false'. Refute it at one input. -/
def spanSortedWrong : ChangeSpec := { name := "spanSorted", fn := fun _ => fun
  | [d] => { results := [.lit (.bool false)], args := [d] }
  | _ => none }
def SpanSortedWrongFalsely : Prop := spanSortedRow.holds Try.pinned (OpenSpec.ofChange spanSortedWrong)

/- THE SECOND FORM. 'bulk': how many values and letters a reading holds, each counted each time it is reached (what is shared counts as often as it is met; a slice's spare places count too). A statement '..UptoSaid' is the law's where the arguments, and the package variables that the reading takes, are together of bulk at most 1048576: NARROWER than '..Said'. Prove '..Said' where nothing that the law and all that it calls make is longer than what came in: it says more and counts as full. Else prove '..UptoSaid'. A law counts once. -/
mutual
def uptoBulk {H : Type} : DataW H → Nat
  | .lit (.string bytes) => bytes.length + 1
  | .lit _ => 1
  | .nil => 1
  | .ptr d => uptoBulk d + 1
  | .slice elems spare => uptoBulkAll elems + uptoBulkAll spare + 1
  | .agg parts => uptoBulkAll parts + 1
  | .iface _ d => uptoBulk d + 1
  | .map entries => uptoBulkEntries entries + 1
  | .held _ => 1
def uptoBulkAll {H : Type} : List (DataW H) → Nat
  | [] => 0
  | d :: r => uptoBulk d + uptoBulkAll r
def uptoBulkEntries {H : Type} : List (Lit × DataW H) → Nat
  | [] => 0
  | x :: r => uptoBulkEntry x + uptoBulkEntries r
def uptoBulkEntry {H : Type} : Lit × DataW H → Nat
  | (.string bytes, d) => bytes.length + uptoBulk d + 1
  | (_, d) => uptoBulk d + 1
 end
def uptoSmall : (H : Type) → List (DataW H) → Bool := fun _ ds => decide (uptoBulkAll ds ≤ 1048576)
def OpenSpec.upto (s : _root_.Go.ChangeSpec) : _root_.Go.OpenSpec := { _root_.Go.OpenSpec.ofChange s with cond := some uptoSmall }

/-- 'rubriclaw06.SpanLine', WHERE WHAT IT READS IS OF BULK AT MOST 1048576: true; the input reads as it did. -/
def spanLineUptoRow : OpenClaim := { program := "ytdcigdkeakiknaa", sum := "f2ba047a2a716c3362ead241d037c29e6830e3b1d3e40196ae417de2c09a05f8", func := "rubric/rubriclaw06.SpanLine", spec := "spanLine", apart := false, narrowed := true }
def SpanLineUptoSaid : Prop := spanLineUptoRow.holds Try.pinned (OpenSpec.upto spanLineSpec)

/-- 'rubriclaw06.SpanLen', WHERE WHAT IT READS IS OF BULK AT MOST 1048576: true; the input reads as it did. -/
def spanLenUptoRow : OpenClaim := { program := "ytdcigdkeakiknaa", sum := "f2ba047a2a716c3362ead241d037c29e6830e3b1d3e40196ae417de2c09a05f8", func := "rubric/rubriclaw06.SpanLen", spec := "spanLen", apart := false, narrowed := true }
def SpanLenUptoSaid : Prop := spanLenUptoRow.holds Try.pinned (OpenSpec.upto spanLenSpec)

/-- 'rubriclaw06.SpanHas', WHERE WHAT IT READS IS OF BULK AT MOST 1048576: true; the input reads as it did. -/
def spanHasUptoRow : OpenClaim := { program := "ytdcigdkeakiknaa", sum := "f2ba047a2a716c3362ead241d037c29e6830e3b1d3e40196ae417de2c09a05f8", func := "rubric/rubriclaw06.SpanHas", spec := "spanHas", apart := false, narrowed := true }
def SpanHasUptoSaid : Prop := spanHasUptoRow.holds Try.pinned (OpenSpec.upto spanHasSpec)

/-- 'rubriclaw06.SpanReplace', WHERE WHAT IT READS IS OF BULK AT MOST 1048576: true; the input reads as it did. -/
def spanReplaceUptoRow : OpenClaim := { program := "ytdcigdkeakiknaa", sum := "f2ba047a2a716c3362ead241d037c29e6830e3b1d3e40196ae417de2c09a05f8", func := "rubric/rubriclaw06.SpanReplace", spec := "spanReplace", apart := false, narrowed := true }
def SpanReplaceUptoSaid : Prop := spanReplaceUptoRow.holds Try.pinned (OpenSpec.upto spanReplaceSpec)

/-- 'rubriclaw06.SpanShift', WHERE WHAT IT READS IS OF BULK AT MOST 1048576: true; the input reads as it did. -/
def spanShiftUptoRow : OpenClaim := { program := "ytdcigdkeakiknaa", sum := "f2ba047a2a716c3362ead241d037c29e6830e3b1d3e40196ae417de2c09a05f8", func := "rubric/rubriclaw06.SpanShift", spec := "spanShift", apart := false, narrowed := true }
def SpanShiftUptoSaid : Prop := spanShiftUptoRow.holds Try.pinned (OpenSpec.upto spanShiftSpec)

/-- 'rubriclaw06.SpanSorted', WHERE WHAT IT READS IS OF BULK AT MOST 1048576: true; the input reads as it did. -/
def spanSortedUptoRow : OpenClaim := { program := "ytdcigdkeakiknaa", sum := "f2ba047a2a716c3362ead241d037c29e6830e3b1d3e40196ae417de2c09a05f8", func := "rubric/rubriclaw06.SpanSorted", spec := "spanSorted", unfollowed := true, recurses := true, apart := false, narrowed := true }
def SpanSortedUptoSaid : Prop := spanSortedUptoRow.holds Try.pinned (OpenSpec.upto spanSortedSpec)

end Rows
end Go.Proofs.Ytdcigdkeakiknaa
