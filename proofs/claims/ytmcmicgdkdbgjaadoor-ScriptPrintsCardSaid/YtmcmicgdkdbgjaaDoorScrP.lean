/- Scripts in plain words: texts in quotes, paths, lines, steps. No program in sight. -/
import Derived.Test.YtmcmicgdkdbgjaaDoorMem
import Derived.Lib.SplitLaws
namespace Go.Proofs.YtmcmicgdkdbgjaaDoor
abbrev Bs := List UInt8
/-- A hex digit's worth, by its place among the signs. -/
def hexF (b : UInt8) : Option Nat := if 48 ≤ b.toNat ∧ b.toNat ≤ 57 then some (b.toNat - 48) else if 97 ≤ b.toNat ∧ b.toNat ≤ 102 then some (b.toNat - 87) else none
theorem hexF_lt {b : UInt8} {n : Nat} (h : hexF b = some n) : n < 16 := by
  unfold hexF at h
  split at h
  · injection h with h
    omega
  · split at h
    · injection h with h
      omega
    · cases h
/-- Two hex digits behind an x. -/
def esc2 : Bs → Option (UInt8 × Nat)
  | a :: b :: _ => match hexF a, hexF b with
    | some x, some y => if 32 ≤ 16 * x + y ∧ 16 * x + y ≤ 126 then none else some (UInt8.ofNat (16 * x + y), 3)
    | _, _ => none
  | _ => none
/-- What stands behind a \, and how many bytes that takes. -/
def escF : Bs → Option (UInt8 × Nat)
  | [] => none
  | c :: r => if c = 34 ∨ c = 92 then some (c, 1) else if c ≠ 120 then none else esc2 r
theorem esc2_le {r : Bs} {b : UInt8} {k : Nat} (h : esc2 r = some (b, k)) : k = 3 ∧ 2 ≤ r.length := by
  cases r with
  | nil => cases h
  | cons x r =>
    cases r with
    | nil => cases h
    | cons y r =>
      cases hx : hexF x with
      | none => simp [esc2, hx] at h
      | some u =>
        cases hy : hexF y with
        | none => simp [esc2, hx, hy] at h
        | some v =>
          simp only [esc2, hx, hy] at h
          by_cases hc : 32 ≤ 16 * u + v ∧ 16 * u + v ≤ 126
          · rw [if_pos hc] at h
            cases h
          · rw [if_neg hc] at h
            have h := congrArg Prod.snd (Option.some.inj h)
            simp only [List.length_cons]
            dsimp only at h
            omega
theorem escF_le {r : Bs} {b : UInt8} {k : Nat} (h : escF r = some (b, k)) : 1 ≤ k ∧ k ≤ r.length := by
  cases r with
  | nil => cases h
  | cons c r =>
    unfold escF at h
    dsimp only at h
    split at h
    · have h := congrArg Prod.snd (Option.some.inj h)
      simp only [List.length_cons]
      dsimp only at h
      omega
    · split at h
      · cases h
      · have h1 := esc2_le h
        simp only [List.length_cons]
        omega
/-- What is read behind the opening quote; how many bytes that takes, the closing one too. (The number: how many are to be passed over first.) -/
def readS : Bs → Nat → Option (Bs × Nat)
  | [], _ => none
  | _ :: r, k + 1 => (readS r k).map fun x => (x.1, x.2 + 1)
  | c :: r, 0 =>
    if c = 34 then some ([], 1)
    else if c = 92 then
      match escF r with
      | none => none
      | some (b, k) => (readS r k).map fun x => (b :: x.1, x.2 + 1)
    else if c.toNat < 32 ∨ 126 < c.toNat then none
    else (readS r 0).map fun x => (c :: x.1, x.2 + 1)
theorem readS_skip : ∀ (r : Bs) (k : Nat), k ≤ r.length → readS r k = (readS (r.drop k) 0).map fun x => (x.1, x.2 + k)
  | r, 0, _ => by
    rw [List.drop_zero]
    cases readS r 0 <;> rfl
  | [], k + 1, h => absurd h (by simp)
  | c :: r, k + 1, h => by
    rw [readS, readS_skip r k (by simpa using h), List.drop_succ_cons]
    cases readS (r.drop k) 0 <;> rfl
theorem readS_le : ∀ (r : Bs) (k : Nat) (x : Bs × Nat), readS r k = some x → 1 ≤ x.2 ∧ x.2 ≤ r.length ∧ x.1.length + k + 1 ≤ x.2
  | [], _, x, h => by cases h
  | c :: r, k + 1, x, h => by
    rw [readS] at h
    obtain ⟨y, hy, rfl⟩ := Option.map_eq_some_iff.1 h
    have := readS_le r k y hy
    simp only [List.length_cons]
    omega
  | c :: r, 0, x, h => by
    rw [readS] at h
    split at h
    · injection h with h
      subst h
      simp
    · split at h
      · split at h
        · cases h
        · rename_i b k he
          obtain ⟨y, hy, rfl⟩ := Option.map_eq_some_iff.1 h
          have := readS_le r k y hy
          have := escF_le he
          simp only [List.length_cons]
          omega
      · split at h
        · cases h
        · obtain ⟨y, hy, rfl⟩ := Option.map_eq_some_iff.1 h
          have := readS_le r 0 y hy
          simp only [List.length_cons]
          omega
/-- A text in quotes at the beginning. -/
def readF : Bs → Option (Bs × Nat)
  | [] => none
  | c :: r => if c = 34 then (readS r 0).map fun x => (x.1, x.2 + 1) else none
theorem readF_le {l : Bs} {x : Bs × Nat} (h : readF l = some x) : x.2 ≤ l.length ∧ x.1.length + 2 ≤ x.2 := by
  cases l with
  | nil => cases h
  | cons c r =>
    unfold readF at h
    dsimp only at h
    split at h
    · obtain ⟨y, hy, rfl⟩ := Option.map_eq_some_iff.1 h
      have := readS_le r 0 y hy
      simp only [List.length_cons]
      omega
    · cases h
/-- Parted at each of a byte. -/
def splitF (c : UInt8) : Bs → List Bs
  | [] => [[]]
  | b :: r => if b = c then [] :: splitF c r else
    match splitF c r with
    | [] => [[b]]
    | w :: ws => (b :: w) :: ws
theorem splitF_ne (c : UInt8) (l : Bs) : splitF c l ≠ [] := by
  cases l with
  | nil => simp [splitF]
  | cons b r =>
    unfold splitF
    split
    · simp
    · split <;> simp
/-- Digits' worth. -/
def sdig (b : UInt8) : Bool := decide (48 ≤ b.toNat ∧ b.toNat ≤ 57)
def worth (l : Bs) : Nat := l.foldl (fun n b => 10 * n + (b.toNat - 48)) 0
theorem worth_snoc (l : Bs) (b : UInt8) : worth (l ++ [b]) = 10 * worth l + (b.toNat - 48) := by
  unfold worth
  rw [List.foldl_append]
  rfl
theorem worth_fold : ∀ (l : Bs) (n : Nat), (∀ b ∈ l, sdig b = true) → l.foldl (fun n b => 10 * n + (b.toNat - 48)) n < (n + 1) * 10 ^ l.length
  | [], n, _ => by simp
  | b :: l, n, h => by
    have h1 := worth_fold l (10 * n + (b.toNat - 48)) fun x hx => h x (by simp [hx])
    have h2 := h b (by simp)
    unfold sdig at h2
    rw [decide_eq_true_eq] at h2
    rw [List.foldl_cons, List.length_cons, Nat.pow_succ]
    refine Nat.lt_of_lt_of_le h1 ?_
    rw [Nat.mul_comm (10 ^ l.length) 10, ← Nat.mul_assoc]
    exact Nat.mul_le_mul_right _ (by omega)
theorem worth_lt (l : Bs) (h : ∀ b ∈ l, sdig b = true) : worth l < 10 ^ l.length := by
  have := worth_fold l 0 h
  unfold worth
  omega
/-- A number of a path: at most nine digits, no zero ahead. -/
def numF (l : Bs) : Option Nat := if l = [] ∨ 9 < l.length ∨ (1 < l.length ∧ l.head? = some 48) ∨ l.all sdig = false then none else some (worth l)
def allF (l : List Bs) : Option (List Nat) := match l with
  | [] => some []
  | w :: ws => match numF w with
    | none => none
    | some n => (allF ws).map (n :: ·)
/-- A path. -/
def pathF (l : Bs) : Option (List Nat) := if l = [46] then some [] else allF (splitF 47 l)
theorem allF_app : ∀ (a b : List Bs), allF (a ++ b) = match allF a with
    | none => none
    | some x => (allF b).map (x ++ ·)
  | [], b => by
    show allF b = (allF b).map _
    cases allF b <;> rfl
  | w :: ws, b => by
    rw [List.cons_append, allF, allF, allF_app ws b]
    cases numF w with
    | none => rfl
    | some n =>
      cases allF ws with
      | none => rfl
      | some x => cases allF b <;> rfl
/-- The place of the first blank; the end, if there is none. -/
def toBlank : Bs → Nat
  | [] => 0
  | b :: r => if b = 32 then 0 else toBlank r + 1
theorem toBlank_le : ∀ l : Bs, toBlank l ≤ l.length
  | [] => Nat.le_refl _
  | b :: r => by
    unfold toBlank
    split
    · omega
    · have := toBlank_le r
      simp only [List.length_cons]
      omega
/-- A step. -/
structure St where
  k : Nat
  p : List Nat := []
  q : List Nat := []
  n : Nat := 0
  a : Bs := []
  t : Bs := []
def wordsL : List Bs := [[], [100, 101, 108, 101, 116, 101], [105, 110, 115, 101, 114, 116], [114, 101, 112, 108, 97, 99, 101], [116, 101, 120, 116], [115, 101, 116], [100, 114, 111, 112], [119, 114, 97, 112], [117, 110, 119, 114, 97, 112], [109, 111, 118, 101]]
def signsL : List Bs := [[], [112], [112, 110, 116], [112, 116], [112, 116], [112, 97, 116], [112, 97], [112, 97], [112], [112, 113, 110]]
/-- The field of a sign: what is left behind it. -/
def fieldF (o : St) (c : UInt8) (l : Bs) : Option (St × Bs) := match l with
  | [] => none
  | b :: r => if b ≠ 32 then none else
    if c = 97 then (readF r).map fun x => ({ o with a := x.1 }, r.drop x.2)
    else if c = 116 then (readF r).map fun x => ({ o with t := x.1 }, r.drop x.2)
    else match pathF (r.take (toBlank r)) with
      | none => none
      | some p => if c = 112 then some ({ o with p := p }, r.drop (toBlank r)) else if c = 113 then some ({ o with q := p }, r.drop (toBlank r)) else
        match p with
        | [n] => some ({ o with n := n }, r.drop (toBlank r))
        | _ => none
def fieldsF (o : St) : Bs → Bs → Option (St × Bs)
  | [], l => some (o, l)
  | c :: cs, l => match fieldF o c l with
    | none => none
    | some (o', l') => fieldsF o' cs l'
/-- The kind of a word: 0: none. -/
def kindF (w : Bs) : Nat := if w = [] then 0 else match wordsL.findIdx? (· == w) with
  | none => 0
  | some k => k
def stepF (l : Bs) : Option St :=
  let k := kindF (l.take (toBlank l))
  if k = 0 then none else
  match fieldsF { k := k } (signsL.getD k []) (l.drop (toBlank l)) with
  | some (o, []) => some o
  | _ => none
/-- All lines: the steps, or the number of the line that is none. -/
def linesF : Nat → List Bs → Except Nat (List St)
  | _, [] => .ok []
  | i, l :: ls => if l = [] then linesF (i + 1) ls else
    match stepF l with
    | none => .error i
    | some o => match linesF (i + 1) ls with
      | .ok os => .ok (o :: os)
      | .error k => .error k
def parseF (s : Bs) : Except Nat (List St) := linesF 1 (splitF 10 s)
end Go.Proofs.YtmcmicgdkdbgjaaDoor
