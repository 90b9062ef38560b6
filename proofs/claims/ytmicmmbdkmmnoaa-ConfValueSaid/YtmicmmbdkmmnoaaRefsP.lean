/- What the functions of layer 14 compute, as plain functions of runes. No program in sight. -/
import Derived.Test.YtmicmmbdkmmnoaaScanR
import Derived.Lib.Hide
namespace Go.Proofs.Ytmicmmbdkmmnoaa

/-- What begins with a &: kind and length. -/
def refT (s : List Int) : Int × Nat :=
  if s[1]? = some 35 then
    if s[2]? = some 120 then (if 0 < runF hexB (s.drop 3) ∧ s[3 + runF hexB (s.drop 3)]? = some 59 then (3, runF hexB (s.drop 3) + 4) else (11, 1))
    else (if 0 < runF digB (s.drop 2) ∧ s[2 + runF digB (s.drop 2)]? = some 59 then (3, runF digB (s.drop 2) + 3) else (11, 1))
  else if 0 < leadF (s.drop 1) ∧ s[1 + leadF (s.drop 1)]? = some 59 then (2, leadF (s.drop 1) + 2) else (11, 1)

/-- Digits' worth; beyond all runes one that is none. -/
def worthF (base : Int) : Int → List Int → Int
  | v, [] => v
  | v, x :: s => worthF base (min (v * base + hexV x) 1114112) s
/-- The rune that a whole reference by number means; -1: none. -/
def numR (s : List Int) : Int :=
  let v := if s[2]? = some 120 then worthF 16 0 ((s.drop 3).take (s.length - 4)) else worthF 10 0 ((s.drop 2).take (s.length - 3))
  if isChar v then v else -1
/-- The rune that all of a row, which begins with a &, means by a number; -1: none. -/
def numberF (s : List Int) : Int := if (refT s).1 = 3 ∧ (refT s).2 = s.length then numR s else -1

/-- A name's bytes. -/
def nameB (l : List Int) : ByteArray := strOfNums (l.flatMap encF)
structure Pc where
  kind : Int
  len : Nat
  r : Int
  name : ByteArray
/-- The piece at the beginning. -/
def pieceF (s : List Int) : Pc :=
  if s[0]? = some 38 then
    (if (refT s).1 = 3 then (if 0 ≤ numberF (s.take (refT s).2) then ⟨2, (refT s).2, numberF (s.take (refT s).2), ⟨#[]⟩⟩ else ⟨4, (refT s).2, 0, ⟨#[]⟩⟩)
     else if (refT s).1 = 2 then ⟨3, (refT s).2, 0, nameB ((s.drop 1).take ((refT s).2 - 2))⟩ else ⟨4, 1, 0, ⟨#[]⟩⟩)
  else ⟨1, runF (fun x => x != 38) s, 0, ⟨#[]⟩⟩
def pcsG : Nat → List Int → List Pc
  | 0, _ => []
  | f + 1, s => if s = [] then [] else pieceF s :: pcsG f (s.drop (pieceF s).len)
def pcsF (s : List Int) : List Pc := pcsG s.length s
theorem isChar_num {v : Int} (h : isChar v = true) : 0 ≤ v := by
  rcases Int.lt_or_le v 0 with h0 | h0
  · exfalso
    unfold isChar inSpans chSpans at h
    simp at h
    omega
  · exact h0
theorem refT_len (s : List Int) : 1 ≤ (refT s).2 := by
  unfold refT
  (repeat' split) <;> simp <;> omega
theorem runF_pos {p : Int → Bool} {x : Int} {s : List Int} (h : p x = true) : 1 ≤ runF p (x :: s) := by
  unfold runF
  rw [List.takeWhile_cons, if_pos h, List.length_cons]
  omega
theorem pieceF_len {s : List Int} (h : s ≠ []) : 1 ≤ (pieceF s).len := by
  have := refT_len s
  unfold pieceF
  split
  · (repeat' split) <;> simp <;> omega
  · rename_i h0
    cases s with
    | nil => exact absurd rfl h
    | cons x s =>
      exact runF_pos (by simpa using h0)
theorem pcsG_fuel : ∀ (f f' : Nat) (s : List Int), s.length ≤ f → s.length ≤ f' → pcsG f s = pcsG f' s
  | 0, 0, _, _, _ => rfl
  | 0, f' + 1, s, h, _ => by
    have : s = [] := List.eq_nil_of_length_eq_zero (by omega)
    rw [pcsG, pcsG, if_pos this]
  | f + 1, 0, s, _, h => by
    have : s = [] := List.eq_nil_of_length_eq_zero (by omega)
    rw [pcsG, pcsG, if_pos this]
  | f + 1, f' + 1, s, h, h' => by
    rw [pcsG, pcsG]
    split
    · rfl
    · rename_i hs
      have := pieceF_len hs
      rw [pcsG_fuel f f' _ (by rw [List.length_drop]; omega) (by rw [List.length_drop]; omega)]
theorem pcsF_nil : pcsF [] = [] := rfl
theorem pcsF_cons {s : List Int} (h : s ≠ []) : pcsF s = pieceF s :: pcsF (s.drop (pieceF s).len) := by
  have hl := pieceF_len h
  have hp : 0 < s.length := List.length_pos_iff.2 h
  unfold pcsF
  obtain ⟨m, hm⟩ : ∃ m, s.length = m + 1 := ⟨s.length - 1, by omega⟩
  rw [hm, pcsG, if_neg h, pcsG_fuel m _ _ (by rw [List.length_drop]; omega) (Nat.le_refl _)]

/-- What a known name means; -1: none. -/
def knownF (s : ByteArray) : Int :=
  if (s.data.toList == [108, 116]) = true then 60 else if (s.data.toList == [103, 116]) = true then 62 else if (s.data.toList == [97, 109, 112]) = true then 38 else if (s.data.toList == [97, 112, 111, 115]) = true then 39 else if (s.data.toList == [113, 117, 111, 116]) = true then 34 else -1

/-- What a piece of runes means; none: nothing. -/
def meanF (s : List Int) (p : Pc) : Option (List Int) :=
  if p.kind = 1 then some (s.take p.len) else if p.kind = 2 then some [p.r] else if p.kind = 3 ∧ 0 ≤ knownF p.name then some [knownF p.name] else none
def plainG : Nat → List Int → Option (List Int)
  | 0, _ => some []
  | f + 1, s => if s = [] then some [] else
    match meanF s (pieceF s), plainG f (s.drop (pieceF s).len) with
    | some a, some b => some (a ++ b)
    | _, _ => none
def plainlyF (s : List Int) : Option (List Int) := plainG s.length s

/-- What stands for a rune; nothing: itself. -/
def signF (l : List Int) (i : Nat) (q : Int) : List Int :=
  let r := l.getD i 0
  if r = 38 then [38, 97, 109, 112, 59]
  else if r = 60 then [38, 108, 116, 59]
  else if r = 62 ∧ 2 ≤ i ∧ l.getD (i - 1) 0 = 93 ∧ l.getD (i - 2) 0 = 93 then [38, 103, 116, 59]
  else if r = 13 then [38, 35, 120, 68, 59]
  else if ¬ (q = 34 ∨ q = 39) then []
  else if r = q ∧ r = 34 then [38, 113, 117, 111, 116, 59]
  else if r = q then [38, 97, 112, 111, 115, 59]
  else if r = 9 then [38, 35, 120, 57, 59]
  else if r = 10 then [38, 35, 120, 65, 59]
  else []
def outF (l : List Int) (i : Nat) (q : Int) : List Int := if signF l i q = [] then [l.getD i 0] else signF l i q
def putG (l : List Int) (q : Int) : Nat → Nat → List Int
  | 0, _ => []
  | f + 1, i => outF l i q ++ putG l q f (i + 1)
def putF (l : List Int) (q : Int) (i : Nat) : List Int := putG l q (l.length - i) i
theorem putF_end {l : List Int} {q : Int} {i : Nat} (h : ¬ i < l.length) : putF l q i = [] := by
  unfold putF
  rw [show l.length - i = 0 by omega]
  rfl
theorem putF_step {l : List Int} {q : Int} {i : Nat} (h : i < l.length) : putF l q i = outF l i q ++ putF l q (i + 1) := by
  unfold putF
  rw [show l.length - i = (l.length - (i + 1)) + 1 by omega]
  rfl
/-- Each end of a line one line feed. -/
def linesF : List Int → List Int
  | [] => []
  | [x] => if x = 13 then [10] else [x]
  | x :: y :: s => if x = 13 then (if y = 10 then linesF (y :: s) else 10 :: linesF (y :: s)) else x :: linesF (y :: s)
end Go.Proofs.Ytmicmmbdkmmnoaa
