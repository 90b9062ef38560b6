/- The library's words for a row that is being sorted, and ours ('Sl', 'Kept'). No program in sight. -/
import Derived.Shelf.SlSortCmp.InsertionK
import Derived.Lib.OwnBridge
import Derived.Test.YtdlgjbijnhfbhaaMem
namespace Go.Proofs.Ytdlgjbijnhfbhaa
open Go.RowKit Go.Lib Go.Sort

section
variable {α : Type} [Inhabited α] {enc : α → List Value} {k : Nat} {w : World} {g n c : Nat} {L : List α}
theorem flat_at (hs : ∀ x, (enc x).length = k) {j : Nat} (hj : j < L.length * k) : (L.flatMap enc)[j]? = some ((enc (L.toArray[j / k]!))[j % k]!) := by
  have hk : 0 < k := by
    rcases Nat.eq_zero_or_pos k with h | h
    · subst h
      simp at hj
    · exact h
  have h1 : j / k < L.length := Nat.div_lt_of_lt_mul (by rw [Nat.mul_comm]; exact hj)
  have h2 : j % k < k := Nat.mod_lt _ hk
  have h3 := flat_get hs h2 L (j / k) L[j / k] (List.getElem?_eq_getElem h1)
  rw [Nat.mul_comm, Nat.div_add_mod] at h3
  rw [h3]
  have e1 : L.toArray[j / k]! = L[j / k] := by simp [h1]
  rw [e1, getElem!_pos (enc L[j / k]) (j % k) (by rw [hs]; exact h2)]
  exact List.getElem?_eq_getElem _
theorem holdsK_of_sl (hs : ∀ x, (enc x).length = k) (h : Sl w k (some ⟨g, 0, none⟩) n c (L.flatMap enc)) (hl : L.length = n) (hf : ∀ j, j < n * k → w.frozen? ⟨g, j, none⟩ = false) : HoldsK enc k w g 0 L.toArray := by
  intro j hj
  have hj' : j < n * k := by simpa [size_flatK, hl] using hj
  refine ⟨?_, by rw [Nat.zero_add]; exact hf j hj'⟩
  have hn : 0 < n := by
    rcases Nat.eq_zero_or_pos n with h0 | h0
    · subst h0
      simp at hj'
    · exact h0
  obtain ⟨b, o, e, hc⟩ := h.at_ hn
  injection e with e
  injection e with e1 e2
  subst e1 e2
  have := hc j _ (flat_at hs (by rw [hl]; exact hj'))
  rw [this, get_flatK enc k _ j (by simpa [hl] using hj')]
  rfl
theorem sl_of_holdsK (hs : ∀ x, (enc x).length = k) (h : HoldsK enc k w g 0 L.toArray) (hl : L.length = n) (hc : n ≤ c) (hm : c ≤ maxLen) : Sl w k (some ⟨g, 0, none⟩) n c (L.flatMap enc) := by
  refine ⟨by rw [flat_len hs, hl], hc, hm, fun _ => ⟨g, 0, rfl, fun j u hu => ?_⟩⟩
  have hj : j < L.length * k := by
    have := (List.getElem?_eq_some_iff.1 hu).1
    rwa [flat_len hs] at this
  rw [flat_at hs hj] at hu
  injection hu with hu
  have := (h j (by simpa [size_flatK] using hj)).1
  rw [this, get_flatK enc k _ j (by simpa using hj), hu]
  rfl
theorem kept_sortWorldK {a : World} (h : Kept a w) (hg : a.heap.size ≤ g) (m : Nat) (d : Array α) (os : Array Obj) : Kept a (sortWorldK enc k w g 0 m d os) := by
  have h1 : Below a.heap.size a (putRow id (Sort.ahead w m) g 0 (flatK enc k d)) := below_putRow h hg
  refine ⟨h1.os, h1.tape, h1.output, ?_, fun b hb => ?_⟩
  · have := h1.size
    show a.heap.size ≤ (_ ++ os).size
    rw [Array.size_append]
    exact Nat.le_trans this (Nat.le_add_right _ _)
  · have h2 := h1.block b hb
    have h3 : b < (putRow id (Sort.ahead w m) g 0 (flatK enc k d)).heap.size := Nat.lt_of_lt_of_le hb h1.size
    rw [← h2]
    show (_ ++ os)[b]? = _
    exact Array.getElem?_append_left h3
theorem cell_sortWorldK {a : Addr} (hb : a.block < w.heap.size) (hne : a.block ≠ g) (m : Nat) (d : Array α) (os : Array Obj) : (sortWorldK enc k w g 0 m d os).cell? a = w.cell? a := by
  unfold sortWorldK
  rw [cell?_grow _ _ _ (by rw [size_putRowK]; exact hb), cell?_putRowK_other _ _ _ _ _ _ _ hne]
  rfl
end
end Go.Proofs.Ytdlgjbijnhfbhaa
