/-
  No cell of these rows narrows 'for every input' (looked for: loops, veiled, ifaces, maps, wideKeys, modest, calm, conditions, laid).
  DERIVED. THE GIVEN ROWS OF THIS SEAT. 7 by the template 'for every input the law returns true; each argument reads behind the call as it read before'; 0 by the template 'total and deterministic' (their statements: YtennpgdoepdboaaTotals.lean).
  GIVEN WITH THE SEED: the statements are not yours to turn. If you find one false, say at which input.
  Laid BY PROGRAM, IN A SANDBOX (cutbox-rows.mjs): the forced cells as the released guide's own fill.sh prints them over the translation 3505a39365a838f2… (all of the seat's roots in one cut). By AI agents, Wed Nov 11 2026. No macro, syntax, notation, axiom, sorry.
-/
import Derived.Test.YtennpgdoepdboaaChecked
import GoSem.Claim
import GoSem.ClaimJoined
import GoSem.ClaimMapViews
import Derived.JoinedTies
import Derived.KernelRfl
namespace Go.Proofs.Ytennpgdoepdboaa
/- THE CELL 'sum', in the pinned program and in every row, IS THE sha256 OF THE DUMP (.gsa) THAT YtennpgdoepdboaaProg.lean LOADS. Nothing in Lean hashes anything: it is a label: what it is worth is what the hold of that sum in a sandbox is worth. -/
noncomputable def Try.pinned : Pinned := { name := "ytennpgdoepdboaa", sum := "3505a39365a838f29b37794c2e638d6c11b7e3ff7525d37861e0ca8d9f668803", checked := Try.checked }
namespace Rows
def none {H : Type} : Left H := { results := [], args := [] }

/-- 'rubriclaw14.RefsPieces': WHATEVER THE INPUT: true; the input reads as it did. -/
def refsPiecesSpec : ChangeSpec := { name := "refsPieces", fn := fun _ => fun
  | [d] => { results := [.lit (.bool true)], args := [d] }
  | _ => none }
def refsPiecesRow : OpenClaim := { program := "ytennpgdoepdboaa", sum := "3505a39365a838f29b37794c2e638d6c11b7e3ff7525d37861e0ca8d9f668803", func := "rubric/rubriclaw14.RefsPieces", spec := "refsPieces", unfollowed := true, recurses := true, apart := false }
def RefsPiecesSaid : Prop := refsPiecesRow.holds Try.pinned (OpenSpec.ofChange refsPiecesSpec)

/-- ITS FALSE NEIGHBOUR: 'it returns false'. Refute it at one input. -/
def refsPiecesWrong : ChangeSpec := { name := "refsPieces", fn := fun _ => fun
  | [d] => { results := [.lit (.bool false)], args := [d] }
  | _ => none }
def RefsPiecesWrongFalsely : Prop := refsPiecesRow.holds Try.pinned (OpenSpec.ofChange refsPiecesWrong)

/-- 'rubriclaw14.RefsNumber': WHATEVER THE INPUT: true; the input reads as it did. -/
def refsNumberSpec : ChangeSpec := { name := "refsNumber", fn := fun _ => fun
  | [d] => { results := [.lit (.bool true)], args := [d] }
  | _ => none }
def refsNumberRow : OpenClaim := { program := "ytennpgdoepdboaa", sum := "3505a39365a838f29b37794c2e638d6c11b7e3ff7525d37861e0ca8d9f668803", func := "rubric/rubriclaw14.RefsNumber", spec := "refsNumber", unfollowed := true, recurses := true, apart := false }
def RefsNumberSaid : Prop := refsNumberRow.holds Try.pinned (OpenSpec.ofChange refsNumberSpec)

/-- ITS FALSE NEIGHBOUR: 'it returns false'. Refute it at one input. -/
def refsNumberWrong : ChangeSpec := { name := "refsNumber", fn := fun _ => fun
  | [d] => { results := [.lit (.bool false)], args := [d] }
  | _ => none }
def RefsNumberWrongFalsely : Prop := refsNumberRow.holds Try.pinned (OpenSpec.ofChange refsNumberWrong)

/-- 'rubriclaw14.RefsApart': WHATEVER THE INPUT: true; the input reads as it did. -/
def refsApartSpec : ChangeSpec := { name := "refsApart", fn := fun _ => fun
  | [d1, d2] => { results := [.lit (.bool true)], args := [d1, d2] }
  | _ => none }
def refsApartRow : OpenClaim := { program := "ytennpgdoepdboaa", sum := "3505a39365a838f29b37794c2e638d6c11b7e3ff7525d37861e0ca8d9f668803", func := "rubric/rubriclaw14.RefsApart", spec := "refsApart", unfollowed := true, recurses := true, apart := false }
def RefsApartSaid : Prop := refsApartRow.holds Try.pinned (OpenSpec.ofChange refsApartSpec)

/-- ITS FALSE NEIGHBOUR: 'it returns false'. Refute it at one input. -/
def refsApartWrong : ChangeSpec := { name := "refsApart", fn := fun _ => fun
  | [d1, d2] => { results := [.lit (.bool false)], args := [d1, d2] }
  | _ => none }
def RefsApartWrongFalsely : Prop := refsApartRow.holds Try.pinned (OpenSpec.ofChange refsApartWrong)

/-- 'rubriclaw14.RefsLines': WHATEVER THE INPUT: true; the input reads as it did. -/
def refsLinesSpec : ChangeSpec := { name := "refsLines", fn := fun _ => fun
  | [d] => { results := [.lit (.bool true)], args := [d] }
  | _ => none }
def refsLinesRow : OpenClaim := { program := "ytennpgdoepdboaa", sum := "3505a39365a838f29b37794c2e638d6c11b7e3ff7525d37861e0ca8d9f668803", func := "rubric/rubriclaw14.RefsLines", spec := "refsLines", unfollowed := true, recurses := true, apart := false }
def RefsLinesSaid : Prop := refsLinesRow.holds Try.pinned (OpenSpec.ofChange refsLinesSpec)

/-- ITS FALSE NEIGHBOUR: 'it returns false'. Refute it at one input. -/
def refsLinesWrong : ChangeSpec := { name := "refsLines", fn := fun _ => fun
  | [d] => { results := [.lit (.bool false)], args := [d] }
  | _ => none }
def RefsLinesWrongFalsely : Prop := refsLinesRow.holds Try.pinned (OpenSpec.ofChange refsLinesWrong)

/-- 'rubriclaw14.RefsKnown': WHATEVER THE INPUT: true; the input reads as it did. -/
def refsKnownSpec : ChangeSpec := { name := "refsKnown", fn := fun _ => fun
  | [d] => { results := [.lit (.bool true)], args := [d] }
  | _ => none }
def refsKnownRow : OpenClaim := { program := "ytennpgdoepdboaa", sum := "3505a39365a838f29b37794c2e638d6c11b7e3ff7525d37861e0ca8d9f668803", func := "rubric/rubriclaw14.RefsKnown", spec := "refsKnown", unfollowed := true, recurses := true, apart := false }
def RefsKnownSaid : Prop := refsKnownRow.holds Try.pinned (OpenSpec.ofChange refsKnownSpec)

/-- ITS FALSE NEIGHBOUR: 'it returns false'. Refute it at one input. -/
def refsKnownWrong : ChangeSpec := { name := "refsKnown", fn := fun _ => fun
  | [d] => { results := [.lit (.bool false)], args := [d] }
  | _ => none }
def RefsKnownWrongFalsely : Prop := refsKnownRow.holds Try.pinned (OpenSpec.ofChange refsKnownWrong)

/-- 'rubriclaw14.RefsPut': WHATEVER THE INPUT: true; the input reads as it did. -/
def refsPutSpec : ChangeSpec := { name := "refsPut", fn := fun _ => fun
  | [d1, d2] => { results := [.lit (.bool true)], args := [d1, d2] }
  | _ => none }
def refsPutRow : OpenClaim := { program := "ytennpgdoepdboaa", sum := "3505a39365a838f29b37794c2e638d6c11b7e3ff7525d37861e0ca8d9f668803", func := "rubric/rubriclaw14.RefsPut", spec := "refsPut", unfollowed := true, recurses := true, apart := false }
def RefsPutSaid : Prop := refsPutRow.holds Try.pinned (OpenSpec.ofChange refsPutSpec)

/-- ITS FALSE NEIGHBOUR: 'it returns false'. Refute it at one input. -/
def refsPutWrong : ChangeSpec := { name := "refsPut", fn := fun _ => fun
  | [d1, d2] => { results := [.lit (.bool false)], args := [d1, d2] }
  | _ => none }
def RefsPutWrongFalsely : Prop := refsPutRow.holds Try.pinned (OpenSpec.ofChange refsPutWrong)

/-- 'rubriclaw14.RefsPlainly': WHATEVER THE INPUT: true; the input reads as it did. -/
def refsPlainlySpec : ChangeSpec := { name := "refsPlainly", fn := fun _ => fun
  | [d] => { results := [.lit (.bool true)], args := [d] }
  | _ => none }
def refsPlainlyRow : OpenClaim := { program := "ytennpgdoepdboaa", sum := "3505a39365a838f29b37794c2e638d6c11b7e3ff7525d37861e0ca8d9f668803", func := "rubric/rubriclaw14.RefsPlainly", spec := "refsPlainly", unfollowed := true, recurses := true, apart := false }
def RefsPlainlySaid : Prop := refsPlainlyRow.holds Try.pinned (OpenSpec.ofChange refsPlainlySpec)

/-- ITS FALSE NEIGHBOUR: 'it returns false'. Refute it at one input. -/
def refsPlainlyWrong : ChangeSpec := { name := "refsPlainly", fn := fun _ => fun
  | [d] => { results := [.lit (.bool false)], args := [d] }
  | _ => none }
def RefsPlainlyWrongFalsely : Prop := refsPlainlyRow.holds Try.pinned (OpenSpec.ofChange refsPlainlyWrong)

/- THE SECOND FORM. 'bulk': how many values and letters a reading holds, each counted each time it is reached (what is shared counts as often as it is met; a slice's spare places count too). A statement '..UptoSaid' is the law's where the arguments, and the package variables that the reading takes, are together of bulk at most 1048576: NARROWER than '..Said'. Prove '..Said' where nothing that the law and all that it calls make is longer than what came in: it says more and counts as full. Else prove '..UptoSaid'. A law counts once. -/
mutual
def uptoBulk {H : Type} : DataW H → Nat
  | .lit (.string bytes) => bytes.length + 1
  | .lit _ => 1
  | .nil => 1
  | .ptr d => uptoBulk d + 1
  | .slice elems spare => uptoBulkAll elems + uptoBulkAll spare + 1
  | .agg parts => uptoBulkAll parts + 1
  | .iface _ d => uptoBulk d + 1
  | .map entries => uptoBulkEntries entries + 1
  | .held _ => 1
def uptoBulkAll {H : Type} : List (DataW H) → Nat
  | [] => 0
  | d :: r => uptoBulk d + uptoBulkAll r
def uptoBulkEntries {H : Type} : List (Lit × DataW H) → Nat
  | [] => 0
  | x :: r => uptoBulkEntry x + uptoBulkEntries r
def uptoBulkEntry {H : Type} : Lit × DataW H → Nat
  | (.string bytes, d) => bytes.length + uptoBulk d + 1
  | (_, d) => uptoBulk d + 1
 end
def uptoSmall : (H : Type) → List (DataW H) → Bool := fun _ ds => decide (uptoBulkAll ds ≤ 1048576)
def OpenSpec.upto (s : _root_.Go.ChangeSpec) : _root_.Go.OpenSpec := { _root_.Go.OpenSpec.ofChange s with cond := some uptoSmall }

/-- 'rubriclaw14.RefsPieces', WHERE WHAT IT READS IS OF BULK AT MOST 1048576: true; the input reads as it did. -/
def refsPiecesUptoRow : OpenClaim := { program := "ytennpgdoepdboaa", sum := "3505a39365a838f29b37794c2e638d6c11b7e3ff7525d37861e0ca8d9f668803", func := "rubric/rubriclaw14.RefsPieces", spec := "refsPieces", unfollowed := true, recurses := true, apart := false, narrowed := true }
def RefsPiecesUptoSaid : Prop := refsPiecesUptoRow.holds Try.pinned (OpenSpec.upto refsPiecesSpec)

/-- 'rubriclaw14.RefsNumber', WHERE WHAT IT READS IS OF BULK AT MOST 1048576: true; the input reads as it did. -/
def refsNumberUptoRow : OpenClaim := { program := "ytennpgdoepdboaa", sum := "3505a39365a838f29b37794c2e638d6c11b7e3ff7525d37861e0ca8d9f668803", func := "rubric/rubriclaw14.RefsNumber", spec := "refsNumber", unfollowed := true, recurses := true, apart := false, narrowed := true }
def RefsNumberUptoSaid : Prop := refsNumberUptoRow.holds Try.pinned (OpenSpec.upto refsNumberSpec)

/-- 'rubriclaw14.RefsApart', WHERE WHAT IT READS IS OF BULK AT MOST 1048576: true; the input reads as it did. -/
def refsApartUptoRow : OpenClaim := { program := "ytennpgdoepdboaa", sum := "3505a39365a838f29b37794c2e638d6c11b7e3ff7525d37861e0ca8d9f668803", func := "rubric/rubriclaw14.RefsApart", spec := "refsApart", unfollowed := true, recurses := true, apart := false, narrowed := true }
def RefsApartUptoSaid : Prop := refsApartUptoRow.holds Try.pinned (OpenSpec.upto refsApartSpec)

/-- 'rubriclaw14.RefsLines', WHERE WHAT IT READS IS OF BULK AT MOST 1048576: true; the input reads as it did. -/
def refsLinesUptoRow : OpenClaim := { program := "ytennpgdoepdboaa", sum := "3505a39365a838f29b37794c2e638d6c11b7e3ff7525d37861e0ca8d9f668803", func := "rubric/rubriclaw14.RefsLines", spec := "refsLines", unfollowed := true, recurses := true, apart := false, narrowed := true }
def RefsLinesUptoSaid : Prop := refsLinesUptoRow.holds Try.pinned (OpenSpec.upto refsLinesSpec)

/-- 'rubriclaw14.RefsKnown', WHERE WHAT IT READS IS OF BULK AT MOST 1048576: true; the input reads as it did. -/
def refsKnownUptoRow : OpenClaim := { program := "ytennpgdoepdboaa", sum := "3505a39365a838f29b37794c2e638d6c11b7e3ff7525d37861e0ca8d9f668803", func := "rubric/rubriclaw14.RefsKnown", spec := "refsKnown", unfollowed := true, recurses := true, apart := false, narrowed := true }
def RefsKnownUptoSaid : Prop := refsKnownUptoRow.holds Try.pinned (OpenSpec.upto refsKnownSpec)

/-- 'rubriclaw14.RefsPut', WHERE WHAT IT READS IS OF BULK AT MOST 1048576: true; the input reads as it did. -/
def refsPutUptoRow : OpenClaim := { program := "ytennpgdoepdboaa", sum := "3505a39365a838f29b37794c2e638d6c11b7e3ff7525d37861e0ca8d9f668803", func := "rubric/rubriclaw14.RefsPut", spec := "refsPut", unfollowed := true, recurses := true, apart := false, narrowed := true }
def RefsPutUptoSaid : Prop := refsPutUptoRow.holds Try.pinned (OpenSpec.upto refsPutSpec)

/-- 'rubriclaw14.RefsPlainly', WHERE WHAT IT READS IS OF BULK AT MOST 1048576: true; the input reads as it did. -/
def refsPlainlyUptoRow : OpenClaim := { program := "ytennpgdoepdboaa", sum := "3505a39365a838f29b37794c2e638d6c11b7e3ff7525d37861e0ca8d9f668803", func := "rubric/rubriclaw14.RefsPlainly", spec := "refsPlainly", unfollowed := true, recurses := true, apart := false, narrowed := true }
def RefsPlainlyUptoSaid : Prop := refsPlainlyUptoRow.holds Try.pinned (OpenSpec.upto refsPlainlySpec)

end Rows
end Go.Proofs.Ytennpgdoepdboaa
