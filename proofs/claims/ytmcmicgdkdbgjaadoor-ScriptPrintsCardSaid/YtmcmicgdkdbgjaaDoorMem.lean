/- Words on memory that all proofs of this seat share: what was there is kept ('Kept'), a slice reads as a list ('Sl'), its cuts. No program in sight. -/
import Derived.Test.YtmcmicgdkdbgjaaDoorRows
import Derived.WalkKit
import Derived.WalkSpells
import Derived.WalkLawsBesides
import Derived.Deep.Draws
import Derived.Deep.QuietTactic
import Derived.BigQuiet
import Derived.Handy
import Derived.Lib.Hide
namespace Go.Proofs.YtmcmicgdkdbgjaaDoor
open Go.RowKit

/-- Nothing that was there has turned. -/
def Kept (w w' : World) : Prop := Below w.heap.size w w'

theorem ret_bool {a b : Bool} (h : a = b) : Ending.returned (.bool a) = .returned (.bool b) := by rw [h]
theorem ret_int {k : IntKind} {a b : Int} (h : a = b) : Ending.returned (.int k a) = .returned (.int k b) := by rw [h]
theorem ret_pair {k : IntKind} {a b : Int} {c d : Bool} (h : a = b) (h' : c = d) : Ending.returned (.tuple #[.int k a, .bool c]) = .returned (.tuple #[.int k b, .bool d]) := by rw [h, h']

section
variable {a w w' w'' : World}
theorem Kept.refl (w : World) : Kept w w := Below.refl _ _
theorem Kept.size (h : Kept w w') : w.heap.size ≤ w'.heap.size := Below.size h
theorem Kept.trans (h : Kept w w') (k : Kept w' w'') : Kept w w'' := Below.trans h (Below.mono k h.size)
theorem Kept.alloc (h : Kept a w) (o : Obj) : Kept a (w.alloc o) := Below.alloc h h.size o
theorem Kept.drew (h : Kept a w) : Kept a w.drew := Below.drew h
theorem Kept.drewN (h : Kept a w) (n : Nat) : Kept a (w.drewN n) := by
  obtain ⟨h1, h2, h3, h4, h5⟩ := (show Below a.heap.size a w from h)
  exact ⟨h1, h2, h3, h4, h5⟩
theorem Kept.setCell (h : Kept a w) {p : Addr} (hp : a.heap.size ≤ p.block) (u : Value) : Kept a (w.setCell p u) := Below.setCell h hp u
theorem Kept.cell (h : Kept w w') {p : Addr} {v : Value} (hc : w.cell? p = some v) : w'.cell? p = some v :=
  (Below.cell h (World.block_lt_of_cell? w p hc)).trans hc
theorem Kept.frozen (h : Kept w w') {p : Addr} {v : Value} (hc : w.cell? p = some v) : w'.frozen? p = w.frozen? p :=
  Below.frozen h (World.block_lt_of_cell? w p hc)
theorem Kept.grown (h : Kept a w) {row : Option Nat} (hg : w.grownBy w' row) (hr : ∀ k, row = some k → a.heap.size ≤ k) : Kept a w' := Below.grown h hg h.size hr
end

/-- The slice value '.slice A n c' holds the cells xs, 's' to an element. -/
def Sl (w : World) (s : Nat) (A : Option Addr) (n c : Nat) (xs : List Value) : Prop :=
  xs.length = n * s ∧ n ≤ c ∧ c ≤ maxLen ∧ (0 < n → ∃ b o, A = some ⟨b, o, none⟩ ∧ ∀ j u, xs[j]? = some u → w.cell? ⟨b, o + j, none⟩ = some u)

theorem cell_spot {w : World} {a : Addr} {v : Value} (h : w.cell? a = some v) : a = ⟨a.block, a.off, none⟩ := by
  obtain ⟨b, o, sp⟩ := a
  cases sp with
  | none => rfl
  | some x =>
    unfold World.cell? at h
    split at h <;> simp at h

section
variable {w w' : World} {s n c : Nat} {A : Option Addr} {xs : List Value}
theorem Sl.nil_ : Sl w s none 0 0 [] := ⟨by simp, Nat.le_refl _, by simp [maxLen], fun h => absurd h (by omega)⟩
theorem Sl.len (h : Sl w s A n c xs) : xs.length = n * s := h.1
theorem Sl.cap (h : Sl w s A n c xs) : n ≤ c := h.2.1
theorem Sl.max (h : Sl w s A n c xs) : c ≤ 9223372036854775807 := by have := h.2.2.1; simpa [maxLen] using this
theorem Sl.at_ (h : Sl w s A n c xs) (hn : 0 < n) : ∃ b o, A = some ⟨b, o, none⟩ ∧ ∀ j u, xs[j]? = some u → w.cell? ⟨b, o + j, none⟩ = some u := h.2.2.2 hn
theorem Sl.kept (h : Sl w s A n c xs) (hk : Kept w w') : Sl w' s A n c xs :=
  ⟨h.1, h.2.1, h.2.2.1, fun hn => by
    obtain ⟨b, o, e, hc⟩ := h.2.2.2 hn
    exact ⟨b, o, e, fun j u hu => hk.cell (hc j u hu)⟩⟩
theorem Sl.of_own {base : Nat} {e : TypeId} {v : Value} (h : w.ownsRow base e s v n xs) : ∃ A c, v = .slice A n c ∧ Sl w s A n c xs := by
  rcases h.2 with ⟨rfl, rfl⟩ | ⟨g, cap, cur, rfl, hb, hh, hnc, hcm, hcs, ht⟩
  · exact ⟨none, 0, rfl, h.1, Nat.le_refl _, by simp [maxLen], fun h => absurd h (by omega)⟩
  · refine ⟨_, cap, rfl, h.1, hnc, hcm, fun _ => ⟨g, 0, rfl, fun j u hu => ?_⟩⟩
    have := h.cells (g := g) rfl j u hu
    rwa [Addr.add_lit] at this
/-- A slice written out as a literal, in a block just laid. -/
theorem Sl.lit {w : World} {t : TypeId} {cs : List Value} {n s : Nat} (hl : cs.length = n * s) (hm : n ≤ 9223372036854775807) : Sl (w.alloc (.cells cs.toArray t)) s (some ⟨w.heap.size, 0, none⟩) n n cs :=
  ⟨hl, Nat.le_refl _, by simpa [maxLen] using hm, fun _ => ⟨_, 0, rfl, fun j u hu => by
    rw [cell_of_row _ _ _ cs.toArray t (0, 0) (heap_alloc_new w _)]
    simpa using hu⟩⟩
end

theorem flat_len {α : Type} {enc : α → List Value} {s : Nat} (hs : ∀ x, (enc x).length = s) (l : List α) : (l.flatMap enc).length = l.length * s := by
  induction l with
  | nil => simp
  | cons x l ih => rw [List.flatMap_cons, List.length_append, hs, ih, List.length_cons, Nat.add_mul]; omega
theorem flat_get {α : Type} {enc : α → List Value} {s : Nat} (hs : ∀ x, (enc x).length = s) {j : Nat} (hj : j < s) : ∀ (l : List α) (k : Nat) (x : α), l[k]? = some x → (l.flatMap enc)[k * s + j]? = (enc x)[j]?
  | [], _, _, h => by simp at h
  | y :: l, 0, x, h => by
    simp at h
    subst h
    rw [List.flatMap_cons, Nat.zero_mul, Nat.zero_add, List.getElem?_append_left (by rw [hs]; exact hj)]
  | y :: l, k + 1, x, h => by
    rw [List.getElem?_cons_succ] at h
    rw [List.flatMap_cons, List.getElem?_append_right (by rw [hs, Nat.add_mul]; omega), hs, show (k + 1) * s + j - s = k * s + j by rw [Nat.add_mul]; omega]
    exact flat_get hs hj l k x h

theorem Sl.llen {α : Type} {enc : α → List Value} {w : World} {s n c : Nat} {A : Option Addr} {l : List α} (hs : ∀ x, (enc x).length = s) (hp : 0 < s) (h : Sl w s A n c (l.flatMap enc)) : l.length = n := by
  have h1 := h.len
  rw [flat_len hs] at h1
  exact Nat.eq_of_mul_eq_mul_right hp h1
/-- A slice of elements of s cells each: the cells of element k. -/
theorem Sl.elem {α : Type} {enc : α → List Value} {w : World} {s n c : Nat} {A : Option Addr} {l : List α} (hs : ∀ x, (enc x).length = s) (hp : 0 < s) (h : Sl w s A n c (l.flatMap enc)) {k : Nat} (hk : k < n) :
    ∃ b o x, A = some ⟨b, o, none⟩ ∧ l[k]? = some x ∧ ∀ j u, (enc x)[j]? = some u → w.cell? ⟨b, o + k * s + j, none⟩ = some u := by
  have hl := h.llen hs hp
  obtain ⟨b, o, rfl, hc⟩ := h.at_ (by omega)
  refine ⟨b, o, l[k], rfl, List.getElem?_eq_getElem (by omega), fun j u hu => ?_⟩
  have hj : j < s := by
    have := (List.getElem?_eq_some_iff.1 hu).1
    rw [hs] at this
    exact this
  rw [Nat.add_assoc]
  refine hc _ u ?_
  rw [flat_get hs hj l k _ (List.getElem?_eq_getElem (by omega))]
  exact hu
/-- A literal, its elements of s cells each. -/
theorem Sl.litf {α : Type} {enc : α → List Value} {w : World} {t : TypeId} {cs : List Value} {n s : Nat} {l : List α} (he : cs = l.flatMap enc) (hl : cs.length = n * s) (hm : n ≤ 9223372036854775807) :
    Sl (w.alloc (.cells cs.toArray t)) s (some ⟨w.heap.size, 0, none⟩) n n (l.flatMap enc) := he ▸ Sl.lit hl hm
theorem Sl.lit1 {α : Type} {enc : α → Value} {w : World} {t : TypeId} {cs : List Value} {n : Nat} {l : List α} (he : cs = l.map enc) (hl : cs.length = n) (hm : n ≤ 9223372036854775807) :
    Sl (w.alloc (.cells cs.toArray t)) 1 (some ⟨w.heap.size, 0, none⟩) n n (l.map enc) := he ▸ Sl.lit (by omega) hm
/-- One cell each. -/
theorem Sl.one {α : Type} {enc : α → Value} {w : World} {n c : Nat} {A : Option Addr} {l : List α} (h : Sl w 1 A n c (l.map enc)) {k : Nat} (hk : k < n) :
    ∃ b o x, A = some ⟨b, o, none⟩ ∧ l[k]? = some x ∧ w.cell? ⟨b, o + k, none⟩ = some (enc x) := by
  have hl : l.length = n := by simpa using h.len
  obtain ⟨b, o, rfl, hc⟩ := h.at_ (by omega)
  exact ⟨b, o, l[k], rfl, List.getElem?_eq_getElem (by omega), hc k _ (by simp [List.getElem?_eq_getElem (show k < l.length by omega)])⟩

end Go.Proofs.YtmcmicgdkdbgjaaDoor
