/-
  No cell of these rows narrows 'for every input' (looked for: loops, veiled, ifaces, maps, wideKeys, modest, calm, conditions, laid).
  DERIVED. THE GIVEN ROWS OF THIS SEAT. 5 by the template 'for every input the law returns true; each argument reads behind the call as it read before'; 0 by the template 'total and deterministic' (their statements: YtdlgjbijnhfbhaaTotals.lean).
  GIVEN WITH THE SEED: the statements are not yours to turn. If you find one false, say at which input.
  Laid BY PROGRAM, IN A SANDBOX (cutbox-rows.mjs): the forced cells as the released guide's own fill.sh prints them over the translation 65af33152d0dc9a1… (all of the seat's roots in one cut). By AI agents, Wed Nov 11 2026. No macro, syntax, notation, axiom, sorry.
-/
import Derived.Test.YtdlgjbijnhfbhaaChecked
import GoSem.Claim
import GoSem.ClaimJoined
import GoSem.ClaimMapViews
import Derived.JoinedTies
import Derived.KernelRfl
namespace Go.Proofs.Ytdlgjbijnhfbhaa
/- THE CELL 'sum', in the pinned program and in every row, IS THE sha256 OF THE DUMP (.gsa) THAT YtdlgjbijnhfbhaaProg.lean LOADS. Nothing in Lean hashes anything: it is a label: what it is worth is what the hold of that sum in a sandbox is worth. -/
noncomputable def Try.pinned : Pinned := { name := "ytdlgjbijnhfbhaa", sum := "65af33152d0dc9a13d77c3bf9c7a66019a92fd547f102a8bf30944797e8c9fa4", checked := Try.checked }
namespace Rows
def none {H : Type} : Left H := { results := [], args := [] }

/-- 'rubriclaw19.ScopeFinds': WHATEVER THE INPUT: true; the input reads as it did. -/
def scopeFindsSpec : ChangeSpec := { name := "scopeFinds", fn := fun _ => fun
  | [d1, d2] => { results := [.lit (.bool true)], args := [d1, d2] }
  | _ => none }
def scopeFindsRow : OpenClaim := { program := "ytdlgjbijnhfbhaa", sum := "65af33152d0dc9a13d77c3bf9c7a66019a92fd547f102a8bf30944797e8c9fa4", func := "rubric/rubriclaw19.ScopeFinds", spec := "scopeFinds", inPlace := ["internal/bytealg.IndexByteString", "internal/bytealg.IndexString"], unfollowed := true, recurses := true, named := ["internal/bytealg.MaxLen"], apart := false }
def ScopeFindsSaid : Prop := scopeFindsRow.holds Try.pinned (OpenSpec.ofChange scopeFindsSpec)

/-- ITS FALSE NEIGHBOUR: 'it returns false'. Refute it at one input. -/
def scopeFindsWrong : ChangeSpec := { name := "scopeFinds", fn := fun _ => fun
  | [d1, d2] => { results := [.lit (.bool false)], args := [d1, d2] }
  | _ => none }
def ScopeFindsWrongFalsely : Prop := scopeFindsRow.holds Try.pinned (OpenSpec.ofChange scopeFindsWrong)

/-- 'rubriclaw19.ScopeSame': WHATEVER THE INPUT: true; the input reads as it did. -/
def scopeSameSpec : ChangeSpec := { name := "scopeSame", fn := fun _ => fun
  | [d1, d2] => { results := [.lit (.bool true)], args := [d1, d2] }
  | _ => none }
def scopeSameRow : OpenClaim := { program := "ytdlgjbijnhfbhaa", sum := "65af33152d0dc9a13d77c3bf9c7a66019a92fd547f102a8bf30944797e8c9fa4", func := "rubric/rubriclaw19.ScopeSame", spec := "scopeSame", inPlace := ["internal/bytealg.IndexByteString", "internal/bytealg.IndexString"], unfollowed := true, recurses := true, named := ["internal/bytealg.MaxLen"], apart := false }
def ScopeSameSaid : Prop := scopeSameRow.holds Try.pinned (OpenSpec.ofChange scopeSameSpec)

/-- ITS FALSE NEIGHBOUR: 'it returns false'. Refute it at one input. -/
def scopeSameWrong : ChangeSpec := { name := "scopeSame", fn := fun _ => fun
  | [d1, d2] => { results := [.lit (.bool false)], args := [d1, d2] }
  | _ => none }
def ScopeSameWrongFalsely : Prop := scopeSameRow.holds Try.pinned (OpenSpec.ofChange scopeSameWrong)

/-- 'rubriclaw19.ScopeNames': WHATEVER THE INPUT: true; the input reads as it did. -/
def scopeNamesSpec : ChangeSpec := { name := "scopeNames", fn := fun _ => fun
  | [d1, d2, d3] => { results := [.lit (.bool true)], args := [d1, d2, d3] }
  | _ => none }
def scopeNamesRow : OpenClaim := { program := "ytdlgjbijnhfbhaa", sum := "65af33152d0dc9a13d77c3bf9c7a66019a92fd547f102a8bf30944797e8c9fa4", func := "rubric/rubriclaw19.ScopeNames", spec := "scopeNames", inPlace := ["internal/bytealg.IndexByteString", "internal/bytealg.IndexString"], unfollowed := true, recurses := true, named := ["internal/bytealg.MaxLen"], apart := false }
def ScopeNamesSaid : Prop := scopeNamesRow.holds Try.pinned (OpenSpec.ofChange scopeNamesSpec)

/-- ITS FALSE NEIGHBOUR: 'it returns false'. Refute it at one input. -/
def scopeNamesWrong : ChangeSpec := { name := "scopeNames", fn := fun _ => fun
  | [d1, d2, d3] => { results := [.lit (.bool false)], args := [d1, d2, d3] }
  | _ => none }
def ScopeNamesWrongFalsely : Prop := scopeNamesRow.holds Try.pinned (OpenSpec.ofChange scopeNamesWrong)

/-- 'rubriclaw19.ScopeAll': WHATEVER THE INPUT: true; the input reads as it did. -/
def scopeAllSpec : ChangeSpec := { name := "scopeAll", fn := fun _ => fun
  | [d] => { results := [.lit (.bool true)], args := [d] }
  | _ => none }
def scopeAllRow : OpenClaim := { program := "ytdlgjbijnhfbhaa", sum := "65af33152d0dc9a13d77c3bf9c7a66019a92fd547f102a8bf30944797e8c9fa4", func := "rubric/rubriclaw19.ScopeAll", spec := "scopeAll", inPlace := ["internal/bytealg.IndexByteString", "internal/bytealg.IndexString"], unfollowed := true, recurses := true, named := ["internal/bytealg.MaxLen"], apart := false }
def ScopeAllSaid : Prop := scopeAllRow.holds Try.pinned (OpenSpec.ofChange scopeAllSpec)

/-- ITS FALSE NEIGHBOUR: 'it returns false'. Refute it at one input. -/
def scopeAllWrong : ChangeSpec := { name := "scopeAll", fn := fun _ => fun
  | [d] => { results := [.lit (.bool false)], args := [d] }
  | _ => none }
def ScopeAllWrongFalsely : Prop := scopeAllRow.holds Try.pinned (OpenSpec.ofChange scopeAllWrong)

/-- 'rubriclaw19.ScopeKeeps': WHATEVER THE INPUT: true; the input reads as it did. -/
def scopeKeepsSpec : ChangeSpec := { name := "scopeKeeps", fn := fun _ => fun
  | [d1, d2, d3] => { results := [.lit (.bool true)], args := [d1, d2, d3] }
  | _ => none }
def scopeKeepsRow : OpenClaim := { program := "ytdlgjbijnhfbhaa", sum := "65af33152d0dc9a13d77c3bf9c7a66019a92fd547f102a8bf30944797e8c9fa4", func := "rubric/rubriclaw19.ScopeKeeps", spec := "scopeKeeps", inPlace := ["internal/bytealg.IndexByteString", "internal/bytealg.IndexString"], unfollowed := true, recurses := true, named := ["internal/bytealg.MaxLen"], apart := false }
def ScopeKeepsSaid : Prop := scopeKeepsRow.holds Try.pinned (OpenSpec.ofChange scopeKeepsSpec)

/-- ITS FALSE NEIGHBOUR: 'it returns false'. Refute it at one input. -/
def scopeKeepsWrong : ChangeSpec := { name := "scopeKeeps", fn := fun _ => fun
  | [d1, d2, d3] => { results := [.lit (.bool false)], args := [d1, d2, d3] }
  | _ => none }
def ScopeKeepsWrongFalsely : Prop := scopeKeepsRow.holds Try.pinned (OpenSpec.ofChange scopeKeepsWrong)

/- THE SECOND FORM. 'bulk': how many values and letters a reading holds, each counted each time it is reached (what is shared counts as often as it is met; a slice's spare places count too). A statement '..UptoSaid' is the law's where the arguments, and the package variables that the reading takes, are together of bulk at most 1048576: NARROWER than '..Said'. Prove '..Said' where nothing that the law and all that it calls make is longer than what came in: it says more and counts as full. Else prove '..UptoSaid'. A law counts once. -/
mutual
def uptoBulk {H : Type} : DataW H → Nat
  | .lit (.string bytes) => bytes.length + 1
  | .lit _ => 1
  | .nil => 1
  | .ptr d => uptoBulk d + 1
  | .slice elems spare => uptoBulkAll elems + uptoBulkAll spare + 1
  | .agg parts => uptoBulkAll parts + 1
  | .iface _ d => uptoBulk d + 1
  | .map entries => uptoBulkEntries entries + 1
  | .held _ => 1
def uptoBulkAll {H : Type} : List (DataW H) → Nat
  | [] => 0
  | d :: r => uptoBulk d + uptoBulkAll r
def uptoBulkEntries {H : Type} : List (Lit × DataW H) → Nat
  | [] => 0
  | x :: r => uptoBulkEntry x + uptoBulkEntries r
def uptoBulkEntry {H : Type} : Lit × DataW H → Nat
  | (.string bytes, d) => bytes.length + uptoBulk d + 1
  | (_, d) => uptoBulk d + 1
 end
def uptoSmall : (H : Type) → List (DataW H) → Bool := fun _ ds => decide (uptoBulkAll ds ≤ 1048576)
def OpenSpec.upto (s : _root_.Go.ChangeSpec) : _root_.Go.OpenSpec := { _root_.Go.OpenSpec.ofChange s with cond := some uptoSmall }

/-- 'rubriclaw19.ScopeFinds', WHERE WHAT IT READS IS OF BULK AT MOST 1048576: true; the input reads as it did. -/
def scopeFindsUptoRow : OpenClaim := { program := "ytdlgjbijnhfbhaa", sum := "65af33152d0dc9a13d77c3bf9c7a66019a92fd547f102a8bf30944797e8c9fa4", func := "rubric/rubriclaw19.ScopeFinds", spec := "scopeFinds", inPlace := ["internal/bytealg.IndexByteString", "internal/bytealg.IndexString"], unfollowed := true, recurses := true, named := ["internal/bytealg.MaxLen"], apart := false, narrowed := true }
def ScopeFindsUptoSaid : Prop := scopeFindsUptoRow.holds Try.pinned (OpenSpec.upto scopeFindsSpec)

/-- 'rubriclaw19.ScopeSame', WHERE WHAT IT READS IS OF BULK AT MOST 1048576: true; the input reads as it did. -/
def scopeSameUptoRow : OpenClaim := { program := "ytdlgjbijnhfbhaa", sum := "65af33152d0dc9a13d77c3bf9c7a66019a92fd547f102a8bf30944797e8c9fa4", func := "rubric/rubriclaw19.ScopeSame", spec := "scopeSame", inPlace := ["internal/bytealg.IndexByteString", "internal/bytealg.IndexString"], unfollowed := true, recurses := true, named := ["internal/bytealg.MaxLen"], apart := false, narrowed := true }
def ScopeSameUptoSaid : Prop := scopeSameUptoRow.holds Try.pinned (OpenSpec.upto scopeSameSpec)

/-- 'rubriclaw19.ScopeNames', WHERE WHAT IT READS IS OF BULK AT MOST 1048576: true; the input reads as it did. -/
def scopeNamesUptoRow : OpenClaim := { program := "ytdlgjbijnhfbhaa", sum := "65af33152d0dc9a13d77c3bf9c7a66019a92fd547f102a8bf30944797e8c9fa4", func := "rubric/rubriclaw19.ScopeNames", spec := "scopeNames", inPlace := ["internal/bytealg.IndexByteString", "internal/bytealg.IndexString"], unfollowed := true, recurses := true, named := ["internal/bytealg.MaxLen"], apart := false, narrowed := true }
def ScopeNamesUptoSaid : Prop := scopeNamesUptoRow.holds Try.pinned (OpenSpec.upto scopeNamesSpec)

/-- 'rubriclaw19.ScopeAll', WHERE WHAT IT READS IS OF BULK AT MOST 1048576: true; the input reads as it did. -/
def scopeAllUptoRow : OpenClaim := { program := "ytdlgjbijnhfbhaa", sum := "65af33152d0dc9a13d77c3bf9c7a66019a92fd547f102a8bf30944797e8c9fa4", func := "rubric/rubriclaw19.ScopeAll", spec := "scopeAll", inPlace := ["internal/bytealg.IndexByteString", "internal/bytealg.IndexString"], unfollowed := true, recurses := true, named := ["internal/bytealg.MaxLen"], apart := false, narrowed := true }
def ScopeAllUptoSaid : Prop := scopeAllUptoRow.holds Try.pinned (OpenSpec.upto scopeAllSpec)

/-- 'rubriclaw19.ScopeKeeps', WHERE WHAT IT READS IS OF BULK AT MOST 1048576: true; the input reads as it did. -/
def scopeKeepsUptoRow : OpenClaim := { program := "ytdlgjbijnhfbhaa", sum := "65af33152d0dc9a13d77c3bf9c7a66019a92fd547f102a8bf30944797e8c9fa4", func := "rubric/rubriclaw19.ScopeKeeps", spec := "scopeKeeps", inPlace := ["internal/bytealg.IndexByteString", "internal/bytealg.IndexString"], unfollowed := true, recurses := true, named := ["internal/bytealg.MaxLen"], apart := false, narrowed := true }
def ScopeKeepsUptoSaid : Prop := scopeKeepsUptoRow.holds Try.pinned (OpenSpec.upto scopeKeepsSpec)

end Rows
end Go.Proofs.Ytdlgjbijnhfbhaa
