/- What the functions of layer 8 compute, as plain functions of the runes and parts that are left. No program in sight. -/
import Derived.Test.YtbebmmohambngaaRun
namespace Go.Proofs.Ytbebmmohambngaa

structure Prt where
  k : Int
  f : Int
  t : Int
def prtC (p : Prt) : List Value := [.int .i64 p.k, .int .i64 p.f, .int .i64 p.t]
theorem prtC_len (p : Prt) : (prtC p).length = 3 := rfl

/-- How many runes a value has, with its quotes; 0: there is none. -/
def valueF : List Int → Nat
  | [] => 0
  | x :: r => if isQuote x then (match closeF x r with | some j => j + 2 | none => 0) else 0
/-- The part at the beginning of runes: its kind, how many it has. -/
def pieceF (s : List Int) (first : Bool) : Int × Nat :=
  if first && startsF [60, 47] s then (1, 2)
  else if first && (s.head? == some 60) then (1, 1)
  else if 0 < runF isSpace s then (3, runF isSpace s)
  else if 0 < leadF s then (2, leadF s)
  else if s.head? == some 61 then (4, 1)
  else if 0 < valueF s then (5, valueF s)
  else if s == [47, 62] || s == [62] then (6, s.length)
  else (7, 1)
def partsF : Nat → Int → List Int → Bool → List Prt
  | 0, _, _, _ => []
  | fuel + 1, at_, s, b => if s = [] then [] else ⟨(pieceF s b).1, at_, at_ + (pieceF s b).2⟩ :: partsF fuel (at_ + (pieceF s b).2) (s.drop (pieceF s b).2) false
def partsX (at_ : Int) (s : List Int) (b : Bool) : List Prt := partsF s.length at_ s b

theorem closeF_lt {q : Int} {s : List Int} {j : Nat} (h : closeF q s = some j) : j < s.length := by
  unfold closeF at h
  rw [List.findIdx?_eq_some_iff_getElem] at h
  exact h.1
theorem valueF_le (s : List Int) : valueF s ≤ s.length := by
  cases s with
  | nil => simp [valueF]
  | cons x r =>
    rw [valueF]
    split
    · split
      · rename_i j hj
        have := closeF_lt hj
        simp
        omega
      · simp
    · simp
theorem leadF_le (s : List Int) : leadF s ≤ s.length := by
  unfold leadF
  split
  · exact runF_le _ _
  · simp
theorem startsF_len {p s : List Int} (h : startsF p s = true) : p.length ≤ s.length := by
  unfold startsF at h
  exact (List.isPrefixOf_iff_prefix.1 h).length_le
theorem pieceF_bd (s : List Int) (b : Bool) (h : s ≠ []) : 1 ≤ (pieceF s b).2 ∧ (pieceF s b).2 ≤ s.length := by
  have h1 : 1 ≤ s.length := by cases s; exact absurd rfl h; simp
  have h2 := valueF_le s
  have h3 := leadF_le s
  have h4 := runF_le isSpace s
  unfold pieceF
  by_cases c1 : (b && startsF [60, 47] s) = true
  · rw [if_pos c1]
    have := startsF_len (Bool.and_eq_true_iff.1 c1).2
    simp at this
    exact ⟨by simp, by simpa using this⟩
  rw [if_neg c1]
  (repeat' split) <;> dsimp only <;> omega
theorem partsF_fuel : ∀ (fuel : Nat) (at_ : Int) (s : List Int) (b : Bool), s.length ≤ fuel → partsF fuel at_ s b = partsF s.length at_ s b
  | 0, at_, s, b, h => by
    have : s.length = 0 := by omega
    rw [this]
  | fuel + 1, at_, s, b, h => by
    by_cases hs : s = []
    · subst hs
      simp [partsF]
    · have hb := pieceF_bd s b hs
      obtain ⟨m, hm⟩ : ∃ m, s.length = m + 1 := ⟨s.length - 1, by omega⟩
      rw [hm, partsF, if_neg hs, partsF, if_neg hs]
      have hd : (s.drop (pieceF s b).2).length ≤ m := by rw [List.length_drop]; omega
      rw [partsF_fuel fuel _ _ _ (by omega), partsF_fuel m _ _ _ hd]
theorem partsX_nil (at_ : Int) (b : Bool) : partsX at_ [] b = [] := rfl
theorem partsX_cons (at_ : Int) (s : List Int) (b : Bool) (hs : s ≠ []) : partsX at_ s b = ⟨(pieceF s b).1, at_, at_ + (pieceF s b).2⟩ :: partsX (at_ + (pieceF s b).2) (s.drop (pieceF s b).2) false := by
  have hb := pieceF_bd s b hs
  obtain ⟨m, hm⟩ : ∃ m, s.length = m + 1 := ⟨s.length - 1, by omega⟩
  unfold partsX
  rw [hm, partsF, if_neg hs, partsF_fuel m]
  rw [List.length_drop]
  omega
theorem partsX_len (s : List Int) : ∀ (n : Nat) (at_ : Int) (b : Bool), s.length ≤ n → (partsX at_ s b).length ≤ s.length := by
  intro n
  induction n generalizing s with
  | zero => 
    intro at_ b h
    have : s = [] := List.eq_nil_of_length_eq_zero (by omega)
    subst this
    simp [partsX_nil]
  | succ n ih =>
    intro at_ b h
    by_cases hs : s = []
    · subst hs
      simp [partsX_nil]
    · have hb := pieceF_bd s b hs
      rw [partsX_cons _ _ _ hs, List.length_cons]
      have := ih (s.drop (pieceF s b).2) (at_ + (pieceF s b).2) false (by rw [List.length_drop]; omega)
      rw [List.length_drop] at this
      omega
end Go.Proofs.Ytbebmmohambngaa
