/- The library's stable sort in plain words: blocks side by side that are merged in place. No program in sight. -/
import Derived.Test.YtdcigdkeakiknaaMem
namespace Go.Proofs.Ytdcigdkeakiknaa

/-- Two halves side by side, each of two rows in order: what lies at the seams tells all. -/
def InOrder {α : Type} (lt : α → α → Bool) (l : List α) : Prop := l.Pairwise fun x y => lt y x = false
/-- A strict order, all of it: of two one is ahead, or none of both is. -/
structure StrictLt {α : Type} (lt : α → α → Bool) : Prop where
  irr : ∀ x, lt x x = false
  trans : ∀ x y z, lt x y = true → lt y z = true → lt x z = true
  le_trans : ∀ x y z, lt y x = false → lt z y = false → lt z x = false
  total : ∀ x y, lt x y = false → lt y x = false → x = y
variable {α : Type} {lt : α → α → Bool}
theorem StrictLt.asymm (h : StrictLt lt) {x y : α} (hx : lt x y = true) : lt y x = false := by
  cases e : lt y x with
  | false => rfl
  | true =>
    have := h.trans x y x hx e
    rw [h.irr] at this
    cases this
theorem inOrder_app {u v : List α} : InOrder lt (u ++ v) ↔ InOrder lt u ∧ InOrder lt v ∧ ∀ x ∈ u, ∀ y ∈ v, lt y x = false := List.pairwise_append
theorem inOrder_left {u v : List α} (h : InOrder lt (u ++ v)) : InOrder lt u := (inOrder_app.1 h).1
theorem inOrder_right {u v : List α} (h : InOrder lt (u ++ v)) : InOrder lt v := (inOrder_app.1 h).2.1
/-- All of one row stand ahead of all of another one, if its last one does so of the other's first one. -/
theorem seam (h : StrictLt lt) {u v : List α} (hu : InOrder lt u) (hv : InOrder lt v) (hs : ∀ x y, u.getLast? = some x → v.head? = some y → lt y x = false) : ∀ x ∈ u, ∀ y ∈ v, lt y x = false := by
  intro x hx y hy
  have hune : u ≠ [] := fun e => by rw [e] at hx; cases hx
  obtain ⟨z, hz⟩ : ∃ z, u.getLast? = some z := ⟨u.getLast hune, List.getLast?_eq_some_getLast hune⟩
  cases v with
  | nil => cases hy
  | cons t v =>
    have h1 := hs z t hz rfl
    have hxz : lt z x = false := by
      have e := List.dropLast_concat_getLast hune
      have hz2 : u.getLast hune = z := by
        rw [List.getLast?_eq_some_getLast hune] at hz
        exact Option.some.inj hz
      rw [hz2] at e
      rw [← e] at hx hu
      rcases List.mem_append.1 hx with hx | hx
      · exact (inOrder_app.1 hu).2.2 x hx z (by simp)
      · rw [List.mem_singleton.1 hx]
        exact h.irr z
    have hty : lt y t = false := by
      rcases List.mem_cons.1 hy with rfl | hy
      · exact h.irr y
      · exact (List.pairwise_cons.1 hv).1 y hy
    exact h.le_trans x t y (h.le_trans x z t hxz h1) hty
/-- What a merge by halves leaves in order. -/
theorem halves (h : StrictLt lt) {u1 u2 v1 v2 L R : List α} (hu : InOrder lt (u1 ++ u2)) (hv : InOrder lt (v1 ++ v2)) (hs1 : ∀ x y, u1.getLast? = some x → v2.head? = some y → lt y x = false) (hs2 : ∀ x y, v1.getLast? = some x → u2.head? = some y → lt y x = false)
    (hL : L.Perm (u1 ++ v1)) (hR : R.Perm (u2 ++ v2)) (oL : InOrder lt L) (oR : InOrder lt R) : InOrder lt (L ++ R) ∧ (L ++ R).Perm ((u1 ++ u2) ++ (v1 ++ v2)) := by
  have a1 := seam h (inOrder_left hu) (inOrder_right hv) hs1
  have a2 := seam h (inOrder_left hv) (inOrder_right hu) hs2
  refine ⟨inOrder_app.2 ⟨oL, oR, fun x hx y hy => ?_⟩, ?_⟩
  · have hx' := hL.subset hx
    have hy' := hR.subset hy
    rcases List.mem_append.1 hx' with hx' | hx'
    · rcases List.mem_append.1 hy' with hy' | hy'
      · exact (inOrder_app.1 hu).2.2 x hx' y hy'
      · exact a1 x hx' y hy'
    · rcases List.mem_append.1 hy' with hy' | hy'
      · exact a2 x hx' y hy'
      · exact (inOrder_app.1 hv).2.2 x hx' y hy'
  · refine (hL.append hR).trans ?_
    rw [List.append_assoc, List.append_assoc]
    refine List.Perm.append_left u1 ?_
    rw [← List.append_assoc, ← List.append_assoc]
    exact List.Perm.append_right v2 List.perm_append_comm
/-- Two rows in order of the same things are the same. -/
theorem order_one (h : StrictLt lt) : ∀ {l l' : List α}, l.Perm l' → InOrder lt l → InOrder lt l' → l = l'
  | [], l', hp, _, _ => (List.nil_perm.1 hp).symm
  | x :: l, [], hp, _, _ => absurd hp (by simp)
  | x :: l, y :: l', hp, h1, h2 => by
    have hxy : x = y := by
      have hx := hp.subset (show x ∈ x :: l by simp)
      have hy := hp.symm.subset (show y ∈ y :: l' by simp)
      rcases List.mem_cons.1 hx with e | hx
      · exact e
      · rcases List.mem_cons.1 hy with e | hy
        · exact e.symm
        · exact h.total x y ((List.pairwise_cons.1 h2).1 x hx) ((List.pairwise_cons.1 h1).1 y hy)
    subst hxy
    rw [order_one h hp.cons_inv (List.pairwise_cons.1 h1).2 (List.pairwise_cons.1 h2).2]
/-- One put where it belongs. -/
theorem put_one (_h : StrictLt lt) {u v : List α} {x : α} (huv : InOrder lt (u ++ v)) (hu : ∀ y ∈ u, lt x y = false) (hv : ∀ y ∈ v, lt y x = false) : InOrder lt (u ++ x :: v) := by
  refine inOrder_app.2 ⟨inOrder_left huv, List.pairwise_cons.2 ⟨hv, inOrder_right huv⟩, fun y hy z hz => ?_⟩
  rcases List.mem_cons.1 hz with rfl | hz
  · exact hu y hy
  · exact (inOrder_app.1 huv).2.2 y hy z hz
end Go.Proofs.Ytdcigdkeakiknaa
