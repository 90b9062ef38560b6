/- What the functions of layer 6 compute, in plain words. No program in sight. -/
import Derived.Test.YtdcigdkeakiknaaMem
namespace Go.Proofs.Ytdcigdkeakiknaa

/-- Does a line end with rune number k? -/
def lineEnd (l : List Int) (k : Nat) : Bool := decide (l[k]? = some 10) || (decide (l[k]? = some 13) && !decide (l[k + 1]? = some 10))
/-- The line and the column of a place. -/
def lcAt (l : List Int) : Nat → Int × Int
  | 0 => (1, 1)
  | k + 1 => if lineEnd l k then ((lcAt l k).1 + 1, 1) else ((lcAt l k).1, (lcAt l k).2 + 1)
theorem lcAt_bd (l : List Int) : ∀ k, 1 ≤ (lcAt l k).1 ∧ (lcAt l k).1 ≤ k + 1 ∧ 1 ≤ (lcAt l k).2 ∧ (lcAt l k).2 ≤ k + 1
  | 0 => by simp [lcAt]
  | k + 1 => by
    have := lcAt_bd l k
    unfold lcAt
    split <;> simp <;> omega
theorem lcAt_end {l : List Int} {k : Nat} (h : lineEnd l k = true) : lcAt l (k + 1) = ((lcAt l k).1 + 1, 1) := by rw [lcAt, if_pos h]
theorem lcAt_on {l : List Int} {k : Nat} (h : lineEnd l k = false) : lcAt l (k + 1) = ((lcAt l k).1, (lcAt l k).2 + 1) := by rw [lcAt, if_neg (by simp [h])]
/-- The five cases of a rune. -/
theorem lineEnd_cases (l : List Int) {k : Nat} (hk : k < l.length) :
    (l[k]? = some 10 ∧ lineEnd l k = true) ∨ (l[k]? = some 13 ∧ k + 1 = l.length ∧ lineEnd l k = true) ∨ (l[k]? = some 13 ∧ ∃ y, l[k + 1]? = some y ∧ y ≠ 10 ∧ lineEnd l k = true) ∨
    (l[k]? = some 13 ∧ l[k + 1]? = some 10 ∧ lineEnd l k = false) ∨ (∃ x, l[k]? = some x ∧ x ≠ 10 ∧ x ≠ 13 ∧ lineEnd l k = false) := by
  have h0 : l[k]? = some l[k] := List.getElem?_eq_getElem hk
  generalize l[k] = x at h0
  by_cases h10 : x = 10
  · subst h10
    exact .inl ⟨h0, by simp [lineEnd, h0]⟩
  by_cases h13 : x = 13
  · subst h13
    refine .inr ?_
    by_cases hl : k + 1 = l.length
    · exact .inl ⟨h0, hl, by simp [lineEnd, h0, hl]⟩
    · have h1 : l[k + 1]? = some l[k + 1] := List.getElem?_eq_getElem (by omega)
      generalize l[k + 1] = y at h1
      by_cases hy : y = 10
      · subst hy
        exact .inr (.inr (.inl ⟨h0, h1, by simp [lineEnd, h0, h1]⟩))
      · exact .inr (.inl ⟨h0, y, h1, hy, by simp [lineEnd, h0, h1, hy]⟩)
  · exact .inr (.inr (.inr (.inr ⟨x, h0, h10, h13, by simp [lineEnd, h0, h10, h13]⟩)))

def most31 : Int := 2147483647
def emptyF (f t : Int) : Bool := decide (t ≤ f)
def lenF (f t : Int) : Int := if t ≤ f then 0 else if f < 0 ∧ f + 2147483647 < t then 2147483647 else if t - f < 2147483647 then t - f else 2147483647
def hasF (f t at_ : Int) : Bool := decide (f ≤ at_) && decide (at_ < t)
def meetsF (f t f' t' : Int) : Bool := !emptyF f t && !emptyF f' t' && decide (f < t') && decide (f' < t)
def joinedF (f t f' t' : Int) : Int × Int := if t ≤ f then (if t' ≤ f' then (0, 0) else (f', t')) else if t' ≤ f' then (f, t) else (if f ≤ f' then f else f', if t ≤ t' then t' else t)
def wrongF (at_ f t n : Int) : Bool := decide (f < 0) || decide (t < f) || decide (2147483647 < t) || decide (n < 0) || decide (2147483647 < n) || decide (2147483647 < at_) || decide (at_ < f)
def shiftF (at_ f t n : Int) : Int := if wrongF at_ f t n then at_ else if t ≤ at_ then at_ + n - lenF f t else f
end Go.Proofs.Ytdcigdkeakiknaa
