/- Two rows of a call's own: bytes, and changes whose bytes lie elsewhere. No program in sight. -/
import Derived.Test.YtdfipecgalnioaaSplT
namespace Go.Proofs.Ytdfipecgalnioaa
open Go.RowKit

structure Two (W w : World) (e9 e10 : TypeId) (v9 v10 : Value) (O : List Int) (Bk : List Ch) : Prop where
  o9 : w.ownsRow W.heap.size e9 1 v9 O.length (O.map (Value.int .u8))
  o10 : w.ownsRow W.heap.size e10 3 v10 Bk.length (Bk.flatMap Ch.cells)
  ne : v9.ownBlock = none ∨ v10.ownBlock = none ∨ v9.ownBlock ≠ v10.ownBlock
  bk : ∀ y ∈ Bk, y.ok w ∧ ∀ b o, y.A = some ⟨b, o, none⟩ → some b ≠ v9.ownBlock ∧ some b ≠ v10.ownBlock ∧ b < w.heap.size
  k : Kept W w

section
variable {W w w' : World} {e9 e10 : TypeId} {v9 v10 v' : Value} {O : List Int} {Bk : List Ch}
theorem Two.start (h : Kept W w) : Two W w e9 e10 (.slice none 0 0) (.slice none 0 0) [] [] :=
  ⟨World.ownsRow_nil _ _ _ _, World.ownsRow_nil _ _ _ _, .inl rfl, (fun y hy => by cases hy), h⟩
theorem Two.ne9 (h : Two W w e9 e10 v9 v10 O Bk) : v9.ownBlock = none ∨ v9.ownBlock ≠ v10.ownBlock := by
  rcases h.ne with h | h | h
  · exact .inl h
  · rw [h]
    cases hv : v9.ownBlock with
    | none => exact .inl rfl
    | some x => exact .inr (by simp)
  · exact .inr h
theorem Two.ne10 (h : Two W w e9 e10 v9 v10 O Bk) : v10.ownBlock = none ∨ v10.ownBlock ≠ v9.ownBlock := by
  rcases h.ne with h | h | h
  · rw [h]
    cases hv : v10.ownBlock with
    | none => exact .inl rfl
    | some x => exact .inr (by simp)
  · exact .inl h
  · exact .inr (Ne.symm h)
theorem Two.kept (h : Two W w e9 e10 v9 v10 O Bk) (k : Kept w w') : Two W w' e9 e10 v9 v10 O Bk :=
  ⟨own_kept h.o9 k, own_kept h.o10 k, h.ne, fun y hy => ⟨(h.bk y hy).1.kept k, fun b o e => by
    obtain ⟨q1, q2, q3⟩ := (h.bk y hy).2 b o e
    exact ⟨q1, q2, Nat.lt_of_lt_of_le q3 k.size⟩⟩, h.k.trans k⟩
theorem Two.push9 (h : Two W w e9 e10 v9 v10 O Bk) {m : Nat} {news : List Int} (hm : m = news.length) (hown : w'.ownsRow W.heap.size e9 1 v' (O.length + m) (O.map (Value.int .u8) ++ news.map (Value.int .u8))) (hk : Kept W w') (hg : w.grownBy w' v9.ownBlock)
    (hob : v'.ownBlock = v9.ownBlock ∨ v'.ownBlock = some w.heap.size) : Two W w' e9 e10 v' v10 (O ++ news) Bk := by
  subst hm
  refine ⟨by rw [List.length_append, List.map_append]; exact hown, h.o10.kept hg h.ne10, ?_, fun y hy => ⟨?_, fun b o e => ?_⟩, hk⟩
  · rcases hob with e | e
    · rw [e]
      exact h.ne
    · rw [e]
      cases hv : v10.ownBlock with
      | none => exact .inr (.inl rfl)
      | some x =>
        refine .inr (.inr ?_)
        intro e
        injection e with e
        have := (h.o10.lt x hv).2
        omega
  · have q := h.bk y hy
    exact ⟨q.1.1.grown hg (fun b o e => (q.2 b o e).1), q.1.2⟩
  · obtain ⟨q1, q2, q3⟩ := (h.bk y hy).2 b o e
    refine ⟨?_, q2, Nat.lt_of_lt_of_le q3 hg.size⟩
    rcases hob with e | e
    · rw [e]
      exact q1
    · rw [e]
      intro e
      injection e with e
      omega
theorem Two.push10 (h : Two W w e9 e10 v9 v10 O Bk) {y : Ch} (hy : y.ok w ∧ ∀ b o, y.A = some ⟨b, o, none⟩ → some b ≠ v9.ownBlock ∧ some b ≠ v10.ownBlock ∧ b < w.heap.size) (hown : w'.ownsRow W.heap.size e10 3 v' (Bk.length + 1) (Bk.flatMap Ch.cells ++ y.cells)) (hk : Kept W w') (hg : w.grownBy w' v10.ownBlock)
    (hob : v'.ownBlock = v10.ownBlock ∨ v'.ownBlock = some w.heap.size) : Two W w' e9 e10 v9 v' O (Bk ++ [y]) := by
  have far : ∀ z : Ch, (z.ok w ∧ ∀ b o, z.A = some ⟨b, o, none⟩ → some b ≠ v9.ownBlock ∧ some b ≠ v10.ownBlock ∧ b < w.heap.size) → z.ok w' ∧ ∀ b o, z.A = some ⟨b, o, none⟩ → some b ≠ v9.ownBlock ∧ some b ≠ v'.ownBlock ∧ b < w'.heap.size := by
    intro z q
    refine ⟨⟨q.1.1.grown hg (fun b o e => (q.2 b o e).2.1), q.1.2⟩, fun b o e => ?_⟩
    obtain ⟨q1, q2, q3⟩ := q.2 b o e
    refine ⟨q1, ?_, Nat.lt_of_lt_of_le q3 hg.size⟩
    rcases hob with e | e
    · rw [e]
      exact q2
    · rw [e]
      intro e
      injection e with e
      omega
  refine ⟨h.o9.kept hg h.ne9, by rw [List.length_append, List.flatMap_append]; simpa using hown, ?_, fun z hz => ?_, hk⟩
  · rcases hob with e | e
    · rw [e]
      exact h.ne
    · rw [e]
      cases hv : v9.ownBlock with
      | none => exact .inl rfl
      | some x =>
        refine .inr (.inr ?_)
        intro e
        injection e with e
        have := (h.o9.lt x hv).2
        omega
  · rcases List.mem_append.1 hz with hz | hz
    · exact far z (h.bk z hz)
    · simp at hz
      subst hz
      exact far z hy
end
end Go.Proofs.Ytdfipecgalnioaa
