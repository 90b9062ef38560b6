/- What the functions of layer 4 compute, as plain functions of a rune. No program in sight. -/
import Derived.Test.YtmcmicgdkdbgjaaDoorMem
namespace Go.Proofs.YtmcmicgdkdbgjaaDoor

/-- Is r in one of the spans? -/
def inSpans (r : Int) (l : List (Int × Int)) : Bool := l.any fun p => decide (p.1 ≤ r) && decide (r ≤ p.2)
theorem take_step {α : Type} {l : List α} {k : Nat} {x : α} (h : l[k]? = some x) : l.take (k + 1) = l.take k ++ [x] := by
  rw [List.take_add_one, h]; rfl
theorem inSpans_step {r : Int} {l : List (Int × Int)} {k : Nat} {p : Int × Int} (hx : l[k]? = some p) (hno : inSpans r (l.take k) = false) (h : ¬ (p.1 ≤ r ∧ r ≤ p.2)) : inSpans r (l.take (k + 1)) = false := by
  rw [take_step hx]
  unfold inSpans at hno ⊢
  rw [List.any_append, hno]
  simp; omega
theorem inSpans_hit {r : Int} {l : List (Int × Int)} {k : Nat} {p : Int × Int} (hx : l[k]? = some p) (h : p.1 ≤ r ∧ r ≤ p.2) : inSpans r l = true := by
  unfold inSpans
  rw [List.any_eq_true]
  exact ⟨p, List.mem_of_getElem? hx, by simp [h]⟩
def spanCells (p : Int × Int) : List Value := [.int .i32 p.1, .int .i32 p.2]

def chSpans : List (Int × Int) := [(32, 55295), (9, 10), (13, 13), (57344, 65533), (65536, 1114111)]
def isChar (r : Int) : Bool := inSpans r chSpans
def isSpace (r : Int) : Bool := decide (r = 32) || decide (r = 9) || decide (r = 10) || decide (r = 13)
def nsSpans : List (Int × Int) := [(97, 122), (65, 90), (58, 58), (95, 95), (192, 214), (216, 246), (248, 767), (880, 893), (895, 8191), (8204, 8205), (8304, 8591), (11264, 12271), (12289, 55295), (63744, 64975), (65008, 65533), (65536, 983039)]
def nameStart (r : Int) : Bool := inSpans r nsSpans
def nmSpans : List (Int × Int) := [(48, 57), (45, 46), (183, 183), (768, 879), (8255, 8256)]
def nameMore (r : Int) : Bool := inSpans r nmSpans
def nameChar (r : Int) : Bool := nameStart r || nameMore r
def ldSpans : List (Int × Int) := [(97, 122), (65, 90), (48, 57)]
def isLetDig (r : Int) : Bool := inSpans r ldSpans
def pubSigns : List Int := [45, 39, 40, 41, 43, 44, 46, 47, 58, 61, 63, 59, 33, 42, 35, 64, 36, 95, 37]
def isPubid (r : Int) : Bool := isLetDig r || decide (r = 32) || decide (r = 13) || decide (r = 10) || pubSigns.any (fun c => decide (c = r))
def digB (r : Int) : Bool := decide (48 ≤ r) && decide (r ≤ 57)
def digV (r : Int) : Int := if 48 ≤ r ∧ r ≤ 57 then r - 48 else 0
def hexB (r : Int) : Bool := digB r || (decide (97 ≤ r) && decide (r ≤ 102)) || (decide (65 ≤ r) && decide (r ≤ 70))
def hexV (r : Int) : Int := if 97 ≤ r ∧ r ≤ 102 then r - 87 else if 65 ≤ r ∧ r ≤ 70 then r - 55 else digV r
def within (r lo hi : Int) : Bool := decide (lo ≤ r) && decide (r ≤ hi)
def isLetter (r : Int) : Bool := within r 97 122 || within r 65 90
/-- The reference's digit. -/
def rDig (r base : Int) : Int :=
  if base ≤ (if 65 ≤ r ∧ r ≤ 70 then r - 55 else if 97 ≤ r ∧ r ≤ 102 then r - 87 else if 48 ≤ r ∧ r ≤ 57 then r - 48 else -1) then -1
  else (if 65 ≤ r ∧ r ≤ 70 then r - 55 else if 97 ≤ r ∧ r ≤ 102 then r - 87 else if 48 ≤ r ∧ r ≤ 57 then r - 48 else -1)

end Go.Proofs.YtmcmicgdkdbgjaaDoor
