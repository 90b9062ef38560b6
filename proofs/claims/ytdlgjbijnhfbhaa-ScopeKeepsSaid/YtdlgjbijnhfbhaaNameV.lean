/- A text's words: the reference's walked; that both ways give the same words. -/
import Derived.Test.YtdlgjbijnhfbhaaNameT
import Derived.Lib.FieldsP
namespace Go.Proofs.Ytdlgjbijnhfbhaa
open Go.RowKit
attribute [local go_sem ↓] Go.wp_at_zero Go.wp_at_succ

/-- The words from a byte on: the one that is open, and those behind. -/
def wordsG (s : ByteArray) : Nat → Nat → Nat → List ByteArray
  | 0, a, pos => if a < pos then [s.extract a pos] else []
  | f + 1, a, pos => if h : pos < s.size then
      (if s[pos] = 32 then (if a < pos then s.extract a pos :: wordsG s f (pos + 1) (pos + 1) else wordsG s f (pos + 1) (pos + 1))
       else wordsG s f a (pos + 1))
    else (if a < pos then [s.extract a pos] else [])
/-- The words of a text. -/
def wordsF (s : ByteArray) : List ByteArray := wordsG s s.size 0 0
theorem wordsG_sp {s : ByteArray} {f a pos : Nat} (h : pos < s.size) (hb : s[pos] = 32) : wordsG s (f + 1) a pos = if a < pos then s.extract a pos :: wordsG s f (pos + 1) (pos + 1) else wordsG s f (pos + 1) (pos + 1) := by
  rw [wordsG, dif_pos h, if_pos hb]
theorem wordsG_in {s : ByteArray} {f a pos : Nat} (h : pos < s.size) (hb : s[pos] ≠ 32) : wordsG s (f + 1) a pos = wordsG s f a (pos + 1) := by
  rw [wordsG, dif_pos h, if_neg hb]
theorem wordsG_end {s : ByteArray} {f a pos : Nat} (h : ¬ pos < s.size) : wordsG s f a pos = if a < pos then [s.extract a pos] else [] := by
  cases f with
  | zero => rfl
  | succ f => rw [wordsG, dif_neg h]
theorem extract_snoc (s : ByteArray) (a pos : Nat) (h : a ≤ pos) : s.extract a pos ++ s.extract pos (pos + 1) = s.extract a (pos + 1) := by
  rw [ByteArray.extract_append_extract]
  congr 1 <;> omega

theorem extract_nil (s : ByteArray) (a : Nat) : s.extract a a = ⟨#[]⟩ := by
  apply ByteArray.ext
  simp
theorem extract_empty (s : ByteArray) (a pos : Nat) (hp : pos ≤ s.size) : ((s.extract a pos).toList == []) = !decide (a < pos) := by
  rw [ByteArray.toList_eq]
  have h2 : (s.extract a pos).data.toList.length = pos - a := by
    have : (s.extract a pos).data.toList.length = (s.extract a pos).size := rfl
    rw [this, ByteArray.size_extract]
    omega
  cases hd : (s.extract a pos).data.toList with
  | nil =>
    rw [hd] at h2
    simp at h2
    simp
    omega
  | cons x t =>
    rw [hd] at h2
    simp at h2
    simp
    omega
end Go.Proofs.Ytdlgjbijnhfbhaa
