/- What blocks hold behind appends and stores; attr at any place. -/
import Derived.Test.YtbebmmohambngaaTagS
namespace Go.Proofs.Ytbebmmohambngaa
open Go.RowKit

section
variable {w w' : World} {b g : Nat} {cs : Array Value} {t : TypeId} {row : Option Nat}
theorem Blk.grown (h : Blk w b cs t) (k : w.grownBy w' row) (hne : some b ≠ row) : Blk w' b cs t := (World.grownBy.block k b h.lt hne).trans h
theorem Blk.set (h : Blk w b cs t) (i : Nat) (u : Value) : Blk (w.setCell ⟨b, i, none⟩ u) b (cs.setIfInBounds i u) t := heap_setCell_same w b i cs t u h
theorem Blk.far (h : Blk w b cs t) {p : Addr} (hne : b ≠ p.block) (u : Value) : Blk (w.setCell p u) b cs t := (heap_setCell_other w p b u hne).trans h
theorem Blk.drew (h : Blk w b cs t) : Blk w.drew b cs t := h
theorem own_grown {base : Nat} {e : TypeId} {size n : Nat} {v : Value} {xs : List Value} (h : w.ownsRow base e size v n xs) (k : w.grownBy w' row) (hne : v.ownBlock ≠ row) : w'.ownsRow base e size v n xs := h.kept k (.inr hne)
theorem own_far {base : Nat} {e : TypeId} {size n : Nat} {v : Value} {xs : List Value} (h : w.ownsRow base e size v n xs) {p : Addr} (hp : p.spot = none) (hne : v.ownBlock ≠ some p.block) (u : Value) : (w.setCell p u).ownsRow base e size v n xs := by
  obtain ⟨g, i, s⟩ := p
  cases hp
  exact h.kept ((Only.refl g w).set i u) (.inr hne)
theorem RD.grown {A : Option Addr} {n c : Nat} {P : List Prt} {j : Nat} (h : RD w g A n c P j) (k : w.grownBy w' row) (hg : some g ≠ row) (ha : 0 < n → ∀ b o, A = some ⟨b, o, none⟩ → some b ≠ row) : RD w' g A n c P j :=
  ⟨World.grownBy.cell k h.c0 hg, World.grownBy.cell k h.c1 hg, (World.frozen?_of_block (a := ⟨g, 1, none⟩) (World.grownBy.block k g h.lt hg)).trans h.fr,
    ⟨h.sl.1, h.sl.2.1, h.sl.2.2.1, fun hn => by
      obtain ⟨b, o, e, hc⟩ := h.sl.2.2.2 hn
      exact ⟨b, o, e, fun j u hu => World.grownBy.cell k (hc j u hu) (ha hn b o e)⟩⟩, h.lo, h.le, h.small⟩
theorem RD.alloc {A : Option Addr} {n c : Nat} {P : List Prt} {j : Nat} (h : RD w g A n c P j) (o : Obj) : RD (w.alloc o) g A n c P j := h.kept ((Kept.refl _).alloc o)
theorem Sl.grown {s n c : Nat} {A : Option Addr} {xs : List Value} (h : Sl w s A n c xs) (k : w.grownBy w' row) (ha : 0 < n → ∀ b o, A = some ⟨b, o, none⟩ → some b ≠ row) : Sl w' s A n c xs :=
  ⟨h.1, h.2.1, h.2.2.1, fun hn => by
    obtain ⟨b, o, e, hc⟩ := h.2.2.2 hn
    exact ⟨b, o, e, fun j u hu => World.grownBy.cell k (hc j u hu) (ha hn b o e)⟩⟩
theorem Sl.off {s n c b o : Nat} {xs : List Value} (h : Sl w s (some ⟨b, o, none⟩) n c xs) {g : Nat} (k : Only g w w') (hne : b ≠ g) : Sl w' s (some ⟨b, o, none⟩) n c xs :=
  h.only k (fun _ b1 o1 e => by injection e with e; injection e with e1 e2; omega)
theorem Sl.above {s n c M : Nat} {A : Option Addr} {xs : List Value} (h : Sl w s A n c xs) (hM : 0 < n → ∀ b o, A = some ⟨b, o, none⟩ → M < b) {p : Addr} (hp : p.block ≤ M) (u : Value) : Sl (w.setCell p u) s A n c xs :=
  ⟨h.1, h.2.1, h.2.2.1, fun hn => by
    obtain ⟨b, o, e, hc⟩ := h.2.2.2 hn
    have := hM hn b o e
    exact ⟨b, o, e, fun j u' hu => (World.cell?_setCell_other w p ⟨b, o + j, none⟩ u (fun e => by subst e; simp at hp; omega)).trans (hc j u' hu)⟩⟩
theorem Sl.drewN {s n c : Nat} {A : Option Addr} {xs : List Value} (h : Sl w s A n c xs) (q : Nat) : Sl (w.drewN q) s A n c xs := h
/-- What the call owns, as a slice. -/
theorem own_sl {base : Nat} {e : TypeId} {size n : Nat} {v : Value} {xs : List Value} (h : w.ownsRow base e size v n xs) : ∃ A c, v = .slice A n c ∧ Sl w size A n c xs := by
  obtain ⟨h1, h2⟩ := h
  rcases h2 with ⟨rfl, rfl⟩ | ⟨g, cap, cur, rfl, hb, hg, hnc, hcm, hcs, ht⟩
  · exact ⟨none, 0, rfl, h1, Nat.le_refl _, by simp [maxLen], fun h => absurd h (Nat.lt_irrefl _)⟩
  · refine ⟨_, _, rfl, h1, hnc, hcm, fun _ => ⟨g, 0, rfl, fun j u hu => ?_⟩⟩
    rw [Nat.zero_add, cell_of_row w g j cur e (0, 0) hg, ← hu, ← ht, List.getElem?_take]
    rw [if_pos (by rw [← h1]; exact (List.getElem?_eq_some_iff.1 hu).1)]
    simp
end

/-- A block of nine cells, stored whole. -/
theorem Blk.over9 {w : World} {b : Nat} {t : TypeId} {z0 z1 z2 z3 z4 z5 z6 z7 z8 : Value} (h : Blk w b #[z0, z1, z2, z3, z4, z5, z6, z7, z8] t) (v0 v1 v2 v3 v4 v5 v6 v7 v8 : Value) : Blk (((((((((w.setCell ⟨b, 0, none⟩ v0).setCell ⟨b, 1, none⟩ v1).setCell ⟨b, 2, none⟩ v2).setCell ⟨b, 3, none⟩ v3).setCell ⟨b, 4, none⟩ v4).setCell ⟨b, 5, none⟩ v5).setCell ⟨b, 6, none⟩ v6).setCell ⟨b, 7, none⟩ v7).setCell ⟨b, 8, none⟩ v8) b #[v0, v1, v2, v3, v4, v5, v6, v7, v8] t := by
  have h := (((((((((h.set 0 v0).set 1 v1).set 2 v2).set 3 v3).set 4 v4).set 5 v5).set 6 v6).set 7 v7).set 8 v8)
  simp only [List.setIfInBounds_toArray, List.set_cons_zero, List.set_cons_succ] at h
  exact h
/-- The attribute at a part, or zeros; and the part behind it. -/
def noAtr : Atr := ⟨noPrt, noPrt, noPrt⟩
def attrA (P : List Prt) (j : Nat) : Atr := match attrF P j with
  | some r => r.1
  | none => noAtr
def attrN (P : List Prt) (j : Nat) : Nat := match attrF P j with
  | some r => r.2
  | none => j
section
variable {w : World} {g : Nat} {A : Option Addr} {n c : Nat} {P : List Prt} {j : Nat}
theorem attr_any (h : RD w g A n c P j) :
    Calls Try.prog 16 #[.pointer (some ⟨g, 0, none⟩)] w fun e w' => e = .returned (.tuple #[.agg (atrC (attrA P j)).toArray, .bool (attrF P j).isSome]) ∧ RD w' g A n c P (attrN P j) ∧ Only g w w' := by
  cases ha : attrF P j with
  | none =>
    have h1 : attrA P j = noAtr := by unfold attrA; rw [ha]
    have h2 : attrN P j = j := by unfold attrN; rw [ha]
    rw [h1, h2]
    exact attr_no h ha
  | some r =>
    have h1 : attrA P j = r.1 := by unfold attrA; rw [ha]
    have h2 : attrN P j = r.2 := by unfold attrN; rw [ha]
    rw [h1, h2]
    exact attr_yes h r.1 r.2 ha
theorem attrN_le (h : j ≤ P.length) : attrN P j ≤ P.length := by
  unfold attrN
  split
  · rename_i r hr
    exact (attrF_lt (a := r.1) (N := r.2) hr).2
  · exact h
end

theorem chain_bd : ∀ (P : List Prt) (a b : Int), Chain a P b → a ≤ b ∧ ∀ (k : Nat) (p : Prt), P[k]? = some p → a ≤ p.f ∧ p.f < p.t ∧ p.t ≤ b
  | [], a, b, h => ⟨Int.le_of_eq h, fun k p hp => by simp at hp⟩
  | q :: P, a, b, h => by
    obtain ⟨h1, h2, _, _, h5⟩ := h
    obtain ⟨h6, h7⟩ := chain_bd P q.t b h5
    refine ⟨by omega, fun k p hp => ?_⟩
    cases k with
    | zero =>
      injection hp with hp
      subst hp
      omega
    | succ k =>
      have := h7 k p hp
      omega
theorem partsL_chain {l : List Int} {f t : Int} (h : ¬ (f < 0 ∨ t < f ∨ (l.length : Int) < t)) : Chain f (partsL l f t) t := by
  unfold partsL
  rw [if_neg h]
  have := partsX_chain ((l.take t.toNat).drop f.toNat).length ((l.take t.toNat).drop f.toNat) f true (Nat.le_refl _)
  rwa [show f + (((l.take t.toNat).drop f.toNat).length : Int) = t by rw [List.length_drop, List.length_take]; omega] at this
theorem partsL_bd {l : List Int} {f t : Int} (hl : l.length ≤ 1000000) {k : Nat} {p : Prt} (hp : (partsL l f t)[k]? = some p) : 0 ≤ p.f ∧ p.f < p.t ∧ p.t ≤ 1000000 := by
  by_cases h : f < 0 ∨ t < f ∨ (l.length : Int) < t
  · unfold partsL at hp
    rw [if_pos h] at hp
    simp at hp
  · have := (chain_bd _ _ _ (partsL_chain h)).2 k p hp
    omega
section
variable {P R : List Prt} {p0 p1 c : Prt} {os : List Atr} {j E : Nat}
theorem readF_shut (hP : P = p0 :: p1 :: R) (h : takeF [1, 2] P = true) (hA : attrsX P 2 = (os, j)) (hE : j + skipN (P.drop j) = E) (h6 : takeF [6] (P.drop E) = false) : readF P = ⟨p1, os, false, false⟩ := by
  unfold readF
  rw [if_pos h, hA]
  dsimp only
  rw [hE, h6]
  subst hP
  simp only [List.getElem?_cons_zero, List.getElem?_cons_succ, Bool.false_and]
  generalize (p0 :: p1 :: R)[E]? = z
  cases z <;> simp
theorem readF_more (hP : P = p0 :: p1 :: R) (h : takeF [1, 2] P = true) (hA : attrsX P 2 = (os, j)) (hE : j + skipN (P.drop j) = E) (h6 : E + 1 ≠ P.length) : readF P = ⟨p1, os, false, false⟩ := by
  unfold readF
  rw [if_pos h, hA]
  dsimp only
  rw [hE]
  rw [show decide (E + 1 = P.length) = false by simpa using h6]
  subst hP
  simp only [List.getElem?_cons_zero, List.getElem?_cons_succ, Bool.and_false]
  generalize (p0 :: p1 :: R)[E]? = z
  cases z <;> simp
theorem readF_right (hP : P = p0 :: p1 :: R) (h : takeF [1, 2] P = true) (hA : attrsX P 2 = (os, j)) (hE : j + skipN (P.drop j) = E) (h6 : takeF [6] (P.drop E) = true) (hl : E + 1 = P.length) (hc : P[E]? = some c) :
    readF P = ⟨p1, os, (p0.t - p0.f == 1) || (os.isEmpty && !(c.t - c.f == 2)), (c.t - c.f == 2) && ((p0.t - p0.f == 1) || (os.isEmpty && !(c.t - c.f == 2)))⟩ := by
  unfold readF
  rw [if_pos h, hA]
  dsimp only
  rw [hE, hc, h6, decide_eq_true hl]
  subst hP
  simp only [List.getElem?_cons_zero, List.getElem?_cons_succ, Bool.and_true, if_true]
  rfl
end
end Go.Proofs.Ytbebmmohambngaa
