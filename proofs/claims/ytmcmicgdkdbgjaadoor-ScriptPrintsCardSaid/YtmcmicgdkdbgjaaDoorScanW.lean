/- Bytes as runes (layer 1), a text's runes (layer 5): walked. -/
import Derived.Test.YtmcmicgdkdbgjaaDoorRun
import Derived.Test.YtmcmicgdkdbgjaaDoorStr
import Derived.Lib.BufferKept
import Derived.Lib.ConvBytes
import Derived.Laws.RangeString
import Derived.Laws.RangeAny
import Derived.WalkSmall
namespace Go.Proofs.YtmcmicgdkdbgjaaDoor
open Go.RowKit

def widthF (r : Int) : Int := if r < 0 ∨ 1114111 < r ∨ (55296 ≤ r ∧ r ≤ 57343) then 0 else if r < 128 then 1 else if r < 2048 then 2 else if r < 65536 then 3 else 4
/-- Is a replacement rune at a place one that stands for bytes that are none? -/
def badS (s : ByteArray) (pos : Nat) : Bool := decide (s.size - pos < 3) || !((s.extract pos (pos + 3)).toList == [239, 191, 189])
structure It where
  r : Int
  off : Nat
  n : Int
def itC (x : It) : List Value := [.int .i32 x.r, .int .i64 x.off, .int .i64 x.n]
/-- The item at a place of a text. -/
def itemAt (s : ByteArray) (pos : Nat) : It :=
  if (Utf8.decode s pos).1 = 65533 ∧ badS s pos = true then ⟨-1, pos, 1⟩ else ⟨(Utf8.decode s pos).1, pos, widthF (Utf8.decode s pos).1⟩
def itemsG (s : ByteArray) : Nat → Nat → List It
  | 0, _ => []
  | f + 1, pos => if pos < s.size then itemAt s pos :: itemsG s f (pos + (Utf8.decode s pos).2) else []
def itemsX (s : ByteArray) (pos : Nat) : List It := itemsG s (s.size - pos) pos
theorem dec_pos {s : ByteArray} {pos : Nat} (h : pos < s.size) : 1 ≤ (Utf8.decode s pos).2 := by
  rcases Nat.lt_or_ge (s[pos]'h).toNat 128 with ha | ha
  · rw [decode_ascii s pos h ha]
    exact Nat.le_refl _
  · exact (decode_high s pos h ha).2
theorem itemsG_fuel (s : ByteArray) : ∀ (f f' pos : Nat), s.size ≤ f + pos → s.size ≤ f' + pos → itemsG s f pos = itemsG s f' pos
  | 0, 0, _, _, _ => rfl
  | 0, f' + 1, pos, h, _ => by rw [itemsG, itemsG, if_neg (by omega)]
  | f + 1, 0, pos, _, h => by rw [itemsG, itemsG, if_neg (by omega)]
  | f + 1, f' + 1, pos, h, h' => by
    rw [itemsG, itemsG]
    split
    · rename_i hp
      have := dec_pos hp
      rw [itemsG_fuel s f f' _ (by omega) (by omega)]
    · rfl
theorem itemsX_cons {s : ByteArray} {pos : Nat} (h : pos < s.size) : itemsX s pos = itemAt s pos :: itemsX s (pos + (Utf8.decode s pos).2) := by
  have hd := dec_pos h
  unfold itemsX
  obtain ⟨m, hm⟩ : ∃ m, s.size - pos = m + 1 := ⟨s.size - pos - 1, by omega⟩
  rw [hm, itemsG, if_pos h, itemsG_fuel s m (s.size - (pos + (Utf8.decode s pos).2)) _ (by omega) (by omega)]
theorem itemsX_end {s : ByteArray} {pos : Nat} (h : ¬ pos < s.size) : itemsX s pos = [] := by
  unfold itemsX
  rw [show s.size - pos = 0 by omega]
  rfl

/-- What the call owns, as a slice. -/
theorem own_sl {w : World} {base : Nat} {e : TypeId} {size n : Nat} {v : Value} {xs : List Value} (h : w.ownsRow base e size v n xs) : ∃ A c, v = .slice A n c ∧ Sl w size A n c xs := by
  obtain ⟨h1, h2⟩ := h
  rcases h2 with ⟨rfl, rfl⟩ | ⟨g, cap, cur, rfl, hb, hg, hnc, hcm, hcs, ht⟩
  · exact ⟨none, 0, rfl, h1, Nat.le_refl _, by simp [maxLen], fun h => absurd h (Nat.lt_irrefl _)⟩
  · refine ⟨_, _, rfl, h1, hnc, hcm, fun _ => ⟨g, 0, rfl, fun j u hu => ?_⟩⟩
    rw [Nat.zero_add, cell_of_row w g j cur e (0, 0) hg, ← hu, ← ht, List.getElem?_take]
    rw [if_pos (by rw [← h1]; exact (List.getElem?_eq_some_iff.1 hu).1)]
    simp
end Go.Proofs.YtmcmicgdkdbgjaaDoor
