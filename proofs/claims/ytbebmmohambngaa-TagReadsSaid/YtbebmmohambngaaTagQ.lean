/- What Read of layer 8 computes, as a plain function of parts. No program in sight. -/
import Derived.Test.YtbebmmohambngaaTagA
namespace Go.Proofs.Ytbebmmohambngaa

theorem attrF_lt {P : List Prt} {j : Nat} {a : Atr} {N : Nat} (h : attrF P j = some (a, N)) : j + 4 ≤ N ∧ N ≤ P.length := by
  obtain ⟨p0, p1, v, _, _, _, _, _, _, hv, _, rfl⟩ := attrF_yes h
  have h1 := (List.getElem?_eq_some_iff.1 hv).1
  unfold valAt eqAt at *
  omega
/-- The attributes from a part on, and the part behind them. -/
def attrsF : Nat → List Prt → Nat → List Atr × Nat
  | 0, _, j => ([], j)
  | f + 1, P, j => match attrF P j with
    | some (a, N) => (a :: (attrsF f P N).1, (attrsF f P N).2)
    | none => ([], j)
def attrsX (P : List Prt) (j : Nat) : List Atr × Nat := attrsF P.length P j
theorem attrsF_fuel (P : List Prt) : ∀ (f f' : Nat) (j : Nat), P.length ≤ f + j → P.length ≤ f' + j → attrsF f P j = attrsF f' P j
  | 0, 0, _, _, _ => rfl
  | 0, f' + 1, j, h, _ => by
    cases ha : attrF P j with
    | none => simp [attrsF, ha]
    | some r =>
      have := attrF_lt (a := r.1) (N := r.2) ha
      omega
  | f + 1, 0, j, _, h => by
    cases ha : attrF P j with
    | none => simp [attrsF, ha]
    | some r =>
      have := attrF_lt (a := r.1) (N := r.2) ha
      omega
  | f + 1, f' + 1, j, h, h' => by
    cases ha : attrF P j with
    | none => simp [attrsF, ha]
    | some r =>
      have hr := attrF_lt (a := r.1) (N := r.2) ha
      obtain ⟨a, N⟩ := r
      simp only [attrsF, ha]
      rw [attrsF_fuel P f f' N (by omega) (by omega)]
theorem attrsX_none {P : List Prt} {j : Nat} (h : attrF P j = none) : attrsX P j = ([], j) := by
  unfold attrsX
  cases P.length <;> simp [attrsF, h]
theorem attrsX_some {P : List Prt} {j : Nat} {a : Atr} {N : Nat} (h : attrF P j = some (a, N)) : attrsX P j = (a :: (attrsX P N).1, (attrsX P N).2) := by
  have hl := attrF_lt h
  unfold attrsX
  obtain ⟨m, hm⟩ : ∃ m, P.length = m + 1 := ⟨P.length - 1, by omega⟩
  rw [hm, ← attrsF_fuel P m (m + 1) N (by omega) (by omega)]
  rw [attrsF, h]

structure Tg where
  name : Prt
  attrs : List Atr
  right : Bool
  empty : Bool
def noPrt : Prt := ⟨0, 0, 0⟩
/-- A tag of parts. -/
def readF (P : List Prt) : Tg :=
  if takeF [1, 2] P then
    match P[0]?, P[1]?, P[(attrsX P 2).2 + skipN (P.drop (attrsX P 2).2)]? with
    | some p0, some p1, some c =>
      if takeF [6] (P.drop ((attrsX P 2).2 + skipN (P.drop (attrsX P 2).2))) && decide ((attrsX P 2).2 + skipN (P.drop (attrsX P 2).2) + 1 = P.length) then
        ⟨p1, (attrsX P 2).1, decide (p0.t - p0.f = 1) || ((attrsX P 2).1.isEmpty && !decide (c.t - c.f = 2)), decide (c.t - c.f = 2) && (decide (p0.t - p0.f = 1) || ((attrsX P 2).1.isEmpty && !decide (c.t - c.f = 2)))⟩
      else ⟨p1, (attrsX P 2).1, false, false⟩
    | _, some p1, _ => ⟨p1, (attrsX P 2).1, false, false⟩
    | _, _, _ => ⟨noPrt, [], false, false⟩
  else ⟨noPrt, [], false, false⟩

/-- Parts that lie one behind the other from a place up to another one. -/
def Chain : Int → List Prt → Int → Prop
  | a, [], b => a = b
  | a, p :: P, b => p.f = a ∧ p.f < p.t ∧ 1 ≤ p.k ∧ p.k ≤ 7 ∧ Chain p.t P b
theorem pieceF_kind (s : List Int) (b : Bool) : 1 ≤ (pieceF s b).1 ∧ (pieceF s b).1 ≤ 7 := by
  unfold pieceF
  (repeat' split) <;> dsimp only <;> omega
theorem partsX_chain : ∀ (n : Nat) (s : List Int) (at_ : Int) (b : Bool), s.length ≤ n → Chain at_ (partsX at_ s b) (at_ + s.length)
  | 0, s, at_, b, h => by
    have : s = [] := List.eq_nil_of_length_eq_zero (by omega)
    subst this
    simp [partsX_nil, Chain]
  | n + 1, s, at_, b, h => by
    by_cases hs : s = []
    · subst hs
      simp [partsX_nil, Chain]
    · have hb := pieceF_bd s b hs
      have hk := pieceF_kind s b
      rw [partsX_cons _ _ _ hs]
      refine ⟨rfl, by dsimp only; omega, hk.1, hk.2, ?_⟩
      have := partsX_chain n (s.drop (pieceF s b).2) (at_ + (pieceF s b).2) false (by rw [List.length_drop]; omega)
      rw [List.length_drop] at this
      rw [show at_ + (s.length : Int) = at_ + ((pieceF s b).2 : Int) + ((s.length - (pieceF s b).2 : Nat) : Int) by omega]
      exact this
end Go.Proofs.Ytbebmmohambngaa
