/- Digits and pieces of scripts, the document's way, in plain words. No program in sight. -/
import Derived.Test.YtmcmicgdkdbgjaaDoorScrP
import Derived.Test.YtmcmicgdkdbgjaaDoorConP
namespace Go.Proofs.YtmcmicgdkdbgjaaDoor

theorem sdig_eq : sdig = isD := by
  funext b
  unfold sdig isD
  rw [Bool.eq_iff_iff]
  simp
theorem numF_eq (l : Bs) : numF l = if l.all isD = false ∨ 9 < l.length ∨ l = [] ∨ decF (valF l) ≠ l then none else some (valF l) := by
  unfold numF
  rw [sdig_eq, show worth l = valF l from rfl]
  by_cases h1 : l.all isD = false
  · rw [if_pos (.inr (.inr (.inr h1))), if_pos (.inl h1)]
  by_cases h2 : 9 < l.length
  · rw [if_pos (.inr (.inl h2)), if_pos (.inr (.inl h2))]
  by_cases h3 : l = []
  · rw [if_pos (.inl h3), if_pos (.inr (.inr (.inl h3)))]
  have hd : ∀ b ∈ l, isD b = true := by
    have : l.all isD = true := by simpa using h1
    exact List.all_eq_true.1 this
  by_cases h4 : 1 < l.length ∧ l.head? = some 48
  · have : decF (valF l) ≠ l := by
      intro e
      cases l with
      | nil => exact h3 rfl
      | cons c m =>
        have hc : c = 48 := by simpa using h4.2
        have hv : ¬ valF (c :: m) < 10 := fun h => by
          have := (dec_len _).2 h
          rw [e] at this
          omega
        exact dec_head _ (by omega) c m e hc
    rw [if_pos (.inr (.inr (.inl h4))), if_pos (.inr (.inr (.inr this)))]
  · have : decF (valF l) = l := (dec_val _ l rfl h3 hd (by
      rcases Nat.lt_or_ge 1 l.length with h | h
      · exact .inr fun e => h4 ⟨h, e⟩
      · exact .inl (by have := List.length_pos_iff.2 h3; omega))).1
    rw [if_neg, if_neg (by simp [h1, h2, h3, this])]
    rintro (h | h | h | h)
    · exact h3 h
    · exact h2 h
    · exact h4 h
    · exact h1 h
/-- A piece that is begun, ahead of the next ones. -/
def preF (w : Bs) : List Bs → List Bs
  | [] => [w]
  | x :: xs => (w ++ x) :: xs
theorem pre_nil {c : UInt8} (l : Bs) : preF [] (splitF c l) = splitF c l := by
  cases h : splitF c l with
  | nil => exact absurd h (splitF_ne c l)
  | cons x xs => rfl
theorem pre_hit {c : UInt8} (w l : Bs) : preF w (splitF c (c :: l)) = w :: splitF c l := by
  rw [splitF, if_pos rfl]
  show (w ++ []) :: _ = _
  rw [List.append_nil]
theorem pre_more {c b : UInt8} (w l : Bs) (h : b ≠ c) : preF w (splitF c (b :: l)) = preF (w ++ [b]) (splitF c l) := by
  rw [splitF, if_neg h]
  cases h : splitF c l with
  | nil => exact absurd h (splitF_ne c l)
  | cons x xs =>
    show (w ++ (b :: x)) :: xs = ((w ++ [b]) ++ x) :: xs
    simp
theorem pre_end {c : UInt8} (w : Bs) : preF w (splitF c []) = [w] := by
  show [w ++ []] = _
  rw [List.append_nil]
/-- Where the document's path stands: some numbers done, a piece begun. -/
def PAt (S : Bs) (i : Nat) (W : Bs) (N : List Nat) : Prop := (i ≤ S.length ∧ W.length ≤ i ∧ ∃ D, allF D = some N ∧ splitF 47 S = D ++ preF W (splitF 47 (S.drop i))) ∨ (i = S.length + 1 ∧ W = [] ∧ allF (splitF 47 S) = some N)
theorem PAt.zero (S : Bs) : PAt S 0 [] [] := .inl ⟨Nat.zero_le _, Nat.le_refl _, [], rfl, by rw [List.drop_zero, pre_nil]; rfl⟩
theorem PAt.more {S W : Bs} {i : Nat} {N : List Nat} {b : UInt8} (h : PAt S i W N) (hb : S[i]? = some b) (hne : b ≠ 47) : PAt S (i + 1) (W ++ [b]) N := by
  have hi := (List.getElem?_eq_some_iff.1 hb).1
  rcases h with ⟨h1, hw, D, h2, h3⟩ | ⟨h1, _⟩
  · refine .inl ⟨hi, by rw [List.length_append, List.length_singleton]; omega, D, h2, ?_⟩
    rw [h3, List.drop_eq_getElem_cons hi, (List.getElem?_eq_some_iff.1 hb).2, pre_more W _ hne]
  · omega
theorem PAt.hit {S W : Bs} {i : Nat} {N : List Nat} {n : Nat} (h : PAt S i W N) (hb : S[i]? = some 47) (hn : numF W = some n) : PAt S (i + 1) [] (N ++ [n]) := by
  have hi := (List.getElem?_eq_some_iff.1 hb).1
  rcases h with ⟨h1, hw, D, h2, h3⟩ | ⟨h1, _⟩
  · refine .inl ⟨hi, Nat.zero_le _, D ++ [W], ?_, ?_⟩
    · rw [allF_app, h2, allF, hn]
      rfl
    · rw [h3, List.drop_eq_getElem_cons hi, (List.getElem?_eq_some_iff.1 hb).2, pre_hit, pre_nil]
      simp
  · omega
theorem PAt.last {S W : Bs} {i : Nat} {N : List Nat} {n : Nat} (h : PAt S i W N) (hi : i = S.length) (hn : numF W = some n) : PAt S (i + 1) [] (N ++ [n]) := by
  rcases h with ⟨h1, hw, D, h2, h3⟩ | ⟨h1, _⟩
  · refine .inr ⟨by omega, rfl, ?_⟩
    rw [h3, hi, List.drop_length, pre_end, allF_app, h2, allF, hn]
    rfl
  · omega
theorem PAt.bad {S W : Bs} {i : Nat} {N : List Nat} (h : PAt S i W N) (hi : S[i]? = some 47 ∨ i = S.length) (hn : numF W = none) : allF (splitF 47 S) = none := by
  rcases h with ⟨h1, hw, D, h2, h3⟩ | ⟨h1, _⟩
  · rcases hi with hb | hi
    · have hi := (List.getElem?_eq_some_iff.1 hb).1
      rw [h3, List.drop_eq_getElem_cons hi, (List.getElem?_eq_some_iff.1 hb).2, pre_hit, allF_app, h2, allF, hn]
      rfl
    · rw [h3, hi, List.drop_length, pre_end, allF_app, h2, allF, hn]
      rfl
  · rcases hi with hb | hi
    · have := (List.getElem?_eq_some_iff.1 hb).1
      omega
    · omega
end Go.Proofs.YtmcmicgdkdbgjaaDoor
