/- Blocks that are known whole. -/
import Derived.Test.YtmcmicgdkdbgjaaDoorApp
namespace Go.Proofs.YtmcmicgdkdbgjaaDoor
open Go.RowKit

theorem Sl.lt {w : World} {s n c : Nat} {A : Option Addr} {xs : List Value} (h : Sl w s A n c xs) (hs : 0 < s) (hn : 0 < n) : ∀ b o, A = some ⟨b, o, none⟩ → b < w.heap.size := by
  intro b o e
  obtain ⟨b', o', rfl, hc⟩ := h.at_ hn
  injection e with e
  injection e with e1 e2
  subst e1 e2
  have hl := h.len
  have h0 : 0 < xs.length := by rw [hl]; exact Nat.mul_pos hn hs
  have := hc 0 xs[0] (List.getElem?_eq_getElem h0)
  exact World.block_lt_of_cell? w _ this

/-- A block that is known whole. -/
def Blk (w : World) (b : Nat) (cs : Array Value) (t : TypeId) : Prop := w.heap[b]? = some (.cells cs t (0, 0))
section
variable {w w' : World} {b g : Nat} {cs : Array Value} {t : TypeId} {row : Option Nat}
theorem Blk.lt (h : Blk w b cs t) : b < w.heap.size := by
  rcases Nat.lt_or_ge b w.heap.size with hlt | hge
  · exact hlt
  · unfold Blk at h
    rw [Array.getElem?_eq_none hge] at h
    cases h
theorem Blk.cell (h : Blk w b cs t) : ∀ i, w.cell? ⟨b, i, none⟩ = cs[i]? := fun i => cell_of_row w b i cs t (0, 0) h
theorem Blk.frozen (h : Blk w b cs t) : ∀ i, w.frozen? ⟨b, i, none⟩ = false := fun i => by
  unfold Blk at h
  simp [World.frozen?, h]
theorem Blk.kept (h : Blk w b cs t) (k : Kept w w') : Blk w' b cs t := (Below.block k b h.lt).trans h
theorem Blk.alloc (h : Blk w b cs t) (o : Obj) : Blk (w.alloc o) b cs t := (Below.heap_alloc w o b h.lt).trans h
theorem Blk.new (w : World) (cs : Array Value) (t : TypeId) : Blk (w.alloc (.cells cs t)) w.heap.size cs t := heap_alloc_new w _
theorem Blk.grown (h : Blk w b cs t) (k : w.grownBy w' row) (hne : some b ≠ row) : Blk w' b cs t := (World.grownBy.block k b h.lt hne).trans h
theorem Blk.set (h : Blk w b cs t) (i : Nat) (u : Value) : Blk (w.setCell ⟨b, i, none⟩ u) b (cs.setIfInBounds i u) t := heap_setCell_same w b i cs t u h
theorem Blk.far (h : Blk w b cs t) {p : Addr} (hne : b ≠ p.block) (u : Value) : Blk (w.setCell p u) b cs t := (heap_setCell_other w p b u hne).trans h
theorem Blk.drew (h : Blk w b cs t) : Blk w.drew b cs t := h
theorem own_grown {base : Nat} {e : TypeId} {size n : Nat} {v : Value} {xs : List Value} (h : w.ownsRow base e size v n xs) (k : w.grownBy w' row) (hne : v.ownBlock ≠ row) : w'.ownsRow base e size v n xs := h.kept k (.inr hne)
end
end Go.Proofs.YtmcmicgdkdbgjaaDoor
