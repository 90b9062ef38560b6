/- Layer 9 in plain words: words, items, parts. No program in sight. -/
import Derived.Test.YtnfcfpcpfnhcnaaLexQ
namespace Go.Proofs.Ytnfcfpcpfnhcnaa
open Go.RowKit

structure Prt where
  k : Int
  f : Int
  t : Int
def prtC (p : Prt) : List Value := [.int .i64 p.k, .int .i64 p.f, .int .i64 p.t]
theorem prtC_len (p : Prt) : (prtC p).length = 3 := rfl
def Prt.none_ : Prt := ⟨0, 0, 0⟩

/-- How many runes something in quotes has; 0: there is none. -/
def quoF : List Int → Nat
  | [] => 0
  | x :: t => if isQuote x then (match closeF x t with | some j => j + 2 | none => 0) else 0
theorem quoF_at {l : List Int} {k : Nat} {x : Int} (h : l[k]? = some x) : quoF (l.drop k) = if isQuote x then (match closeF x (l.drop (k + 1)) with | some j => j + 2 | none => 0) else 0 := by
  rw [drop_get h, quoF]
theorem quoF_le (s : List Int) : quoF s ≤ s.length := by
  cases s with
  | nil => exact Nat.le_refl _
  | cons x t =>
    rw [quoF]
    split
    · split
      · rename_i j hj
        have := closeF_lt hj
        simp
        omega
      · exact Nat.zero_le _
    · exact Nat.zero_le _
theorem leadF_le (s : List Int) : leadF s ≤ s.length := by
  unfold leadF
  split
  · exact runF_le _ _
  · exact Nat.zero_le _
def wordF (s : List Int) : Int × Nat :=
  if 0 < runF isSpace s then (3, runF isSpace s) else if 0 < leadF s then (2, leadF s) else if 0 < quoF s then (4, quoF s) else (8, 1)
theorem wordF_bd (s : List Int) (h : s ≠ []) : 1 ≤ (wordF s).2 ∧ (wordF s).2 ≤ s.length := by
  have h0 : 0 < s.length := List.length_pos_iff.2 h
  unfold wordF
  split
  · exact ⟨by dsimp only; omega, runF_le _ _⟩
  split
  · exact ⟨by dsimp only; omega, leadF_le _⟩
  split
  · exact ⟨by dsimp only; omega, quoF_le _⟩
  · exact ⟨Nat.le_refl _, h0⟩
/-- How many runes there are up to and with what ends something; 0: it does not. -/
def tillF (skip : Nat) (e s : List Int) : Nat := match findF e (s.drop skip) with
  | some k => skip + k + e.length
  | none => 0
theorem tillF_le {skip : Nat} {e s : List Int} (h : skip ≤ s.length) : tillF skip e s ≤ s.length := by
  unfold tillF
  split
  · rename_i k hk
    have := findF_le hk
    rw [List.length_drop] at this
    omega
  · exact Nat.zero_le _
/-- Up to and with the first > in no quotes. -/
def declS (s : List Int) : Nat := if (angleF false 0 s).2 then (angleF false 0 s).1 + 1 else 0
theorem declS_le (s : List Int) : declS s ≤ s.length := by
  obtain ⟨_, h2, _⟩ := angleF_le false s 0
  unfold declS
  split
  · rename_i h
    have := h2 h
    omega
  · exact Nat.zero_le _
def namedS (s : List Int) : Nat := if s[0]? = some 37 ∧ 0 < leadF (s.drop 1) ∧ startsF [59] (s.drop (leadF (s.drop 1) + 1)) = true then leadF (s.drop 1) + 2 else 0
theorem namedS_le (s : List Int) : namedS s ≤ s.length := by
  unfold namedS
  split
  · rename_i h
    have := startsF_len h.2.2
    rw [List.length_drop] at this
    simp only [List.length_cons, List.length_nil] at this
    omega
  · exact Nat.zero_le _
def itemK (s : List Int) : Int × Nat :=
  if startsF cmt s then (12, tillF 4 cmt2 s) else if startsF pis s then (13, tillF 2 pis2 s) else if startsF [60, 33] s then (11, declS s) else if s[0]? = some 37 then (14, namedS s) else (3, runF isSpace s)
theorem itemK_le (s : List Int) : (itemK s).2 ≤ s.length := by
  unfold itemK
  split
  · rename_i h
    exact tillF_le (startsF_len h)
  split
  · rename_i h
    exact tillF_le (startsF_len h)
  split
  · exact declS_le _
  split
  · exact namedS_le _
  · exact runF_le _ _
def itemF (s : List Int) : Int × Nat := if (itemK s).2 = 0 then (8, 1) else itemK s
theorem itemF_bd (s : List Int) (h : s ≠ []) : 1 ≤ (itemF s).2 ∧ (itemF s).2 ≤ s.length := by
  have h0 : 0 < s.length := List.length_pos_iff.2 h
  unfold itemF
  split
  · exact ⟨Nat.le_refl _, h0⟩
  · exact ⟨by omega, itemK_le _⟩

/-- One behind the other. -/
def chainF (step : List Int → Int × Nat) : Nat → Int → List Int → List Prt
  | 0, _, _ => []
  | f + 1, a, s => if s = [] then [] else ⟨(step s).1, a, a + (step s).2⟩ :: chainF step f (a + (step s).2) (s.drop (step s).2)
def chainX (step : List Int → Int × Nat) (a : Int) (s : List Int) : List Prt := chainF step s.length a s
section
variable {step : List Int → Int × Nat} (hb : ∀ s, s ≠ [] → 1 ≤ (step s).2 ∧ (step s).2 ≤ s.length)
include hb
theorem chainF_fuel : ∀ (f : Nat) (a : Int) (s : List Int), s.length ≤ f → chainF step f a s = chainF step s.length a s
  | 0, a, s, h => by
    have : s = [] := List.eq_nil_of_length_eq_zero (by omega)
    subst this
    rfl
  | f + 1, a, s, h => by
    by_cases hs : s = []
    · subst hs
      simp [chainF]
    · obtain ⟨h1, h2⟩ := hb s hs
      obtain ⟨m, hm⟩ : ∃ m, s.length = m + 1 := ⟨s.length - 1, by omega⟩
      rw [chainF, if_neg hs, hm, chainF, if_neg hs, chainF_fuel f _ _ (by rw [List.length_drop]; omega), chainF_fuel m _ _ (by rw [List.length_drop]; omega)]
theorem chainX_cons (a : Int) (s : List Int) (hs : s ≠ []) : chainX step a s = ⟨(step s).1, a, a + (step s).2⟩ :: chainX step (a + (step s).2) (s.drop (step s).2) := by
  obtain ⟨h1, h2⟩ := hb s hs
  obtain ⟨m, hm⟩ : ∃ m, s.length = m + 1 := ⟨s.length - 1, by omega⟩
  unfold chainX
  rw [hm, chainF, if_neg hs, chainF_fuel hb m _ _ (by rw [List.length_drop]; omega)]
theorem chainX_len : ∀ (n : Nat) (a : Int) (s : List Int), s.length ≤ n → (chainX step a s).length ≤ s.length
  | 0, a, s, h => by
    have : s = [] := List.eq_nil_of_length_eq_zero (by omega)
    subst this
    exact Nat.le_refl _
  | n + 1, a, s, h => by
    by_cases hs : s = []
    · subst hs
      exact Nat.le_refl _
    · obtain ⟨h1, h2⟩ := hb s hs
      rw [chainX_cons hb a s hs, List.length_cons]
      have := chainX_len n (a + (step s).2) (s.drop (step s).2) (by rw [List.length_drop]; omega)
      rw [List.length_drop] at this
      omega
end
theorem chainX_nil (step : List Int → Int × Nat) (a : Int) : chainX step a [] = [] := rfl
/-- Words, items: none where there are no such runes. -/
def rowL (step : List Int → Int × Nat) (l : List Int) (f t : Int) : List Prt := if f < 0 ∨ t < f ∨ (l.length : Int) < t then [] else chainX step f ((l.take t.toNat).drop f.toNat)

/-- What is passed over in a subset; 0: it does not end. -/
def passF (s : List Int) : Nat := if startsF cmt s then tillF 4 cmt2 s else if startsF pis s then tillF 2 pis2 s else if s[0]? = some 60 then declS s else 1
theorem passF_le (s : List Int) (h : s ≠ []) : passF s ≤ s.length := by
  have h0 : 0 < s.length := List.length_pos_iff.2 h
  unfold passF
  split
  · rename_i h
    exact tillF_le (startsF_len h)
  split
  · rename_i h
    exact tillF_le (startsF_len h)
  split
  · exact declS_le _
  · exact h0
/-- Where the ] is that closes; or the end. -/
def closG : Nat → List Int → Nat
  | 0, s => s.length
  | _ + 1, [] => 0
  | f + 1, x :: t => if x = 93 then 0 else if passF (x :: t) = 0 then (x :: t).length else passF (x :: t) + closG f ((x :: t).drop (passF (x :: t)))
def closS (s : List Int) : Nat := closG s.length s
theorem closG_fuel : ∀ (f : Nat) (s : List Int), s.length ≤ f → closG f s = closG s.length s
  | 0, s, h => by rw [show s.length = 0 by omega]
  | f + 1, [], h => by simp [closG]
  | f + 1, x :: t, h => by
    have hp := passF_le (x :: t) (by simp)
    rw [List.length_cons, closG, closG]
    split
    · rfl
    split
    · rfl
    · rename_i h0
      rw [closG_fuel f _ (by rw [List.length_drop]; omega), closG_fuel t.length _ (by rw [List.length_drop, List.length_cons]; omega)]
theorem closS_nil : closS [] = 0 := rfl
theorem closS_hit {l : List Int} {k : Nat} (h : l[k]? = some 93) : closS (l.drop k) = 0 := by
  rw [drop_get h, closS, List.length_cons, closG, if_pos rfl]
theorem closS_none {l : List Int} {k : Nat} {x : Int} (h : l[k]? = some x) (hx : x ≠ 93) (hp : passF (l.drop k) = 0) : closS (l.drop k) = l.length - k := by
  rw [drop_get h] at hp
  have hk := (List.getElem?_eq_some_iff.1 h).1
  rw [drop_get h, closS, List.length_cons, closG, if_neg hx, if_pos hp, List.length_cons, List.length_drop]
  omega
theorem closS_on {l : List Int} {k d : Nat} {x : Int} (h : l[k]? = some x) (hx : x ≠ 93) (hp : passF (l.drop k) = d) (hd : d ≠ 0) : closS (l.drop k) = d + closS (l.drop (k + d)) := by
  have hle := passF_le (l.drop k) (by rw [drop_get h]; simp)
  rw [← List.drop_drop]
  rw [drop_get h] at hp hle ⊢
  rw [closS, List.length_cons, closG, if_neg hx, hp, if_neg hd, closS, closG_fuel _ _ (by rw [List.length_drop, List.length_cons]; omega)]
theorem closS_le : ∀ (n : Nat) (s : List Int), s.length ≤ n → closS s ≤ s.length
  | _, [], _ => Nat.le_refl _
  | 0, x :: t, h => by simp at h
  | n + 1, x :: t, h => by
    have hp := passF_le (x :: t) (by simp)
    by_cases hx : x = 93
    · have := closS_hit (l := x :: t) (k := 0) (by simp [hx])
      rw [List.drop_zero] at this
      omega
    · by_cases h0 : passF (x :: t) = 0
      · have := closS_none (l := x :: t) (k := 0) (x := x) rfl hx (by rw [List.drop_zero]; exact h0)
        rw [List.drop_zero] at this
        omega
      · have := closS_on (l := x :: t) (k := 0) (x := x) (d := passF (x :: t)) rfl hx (by rw [List.drop_zero]) h0
        rw [List.drop_zero, Nat.zero_add] at this
        have h2 := closS_le n ((x :: t).drop (passF (x :: t))) (by rw [List.length_drop]; omega)
        rw [List.length_drop] at h2
        omega
/-- The parts of a subset, its [ with it. -/
def subP (a : Int) (s : List Int) : List Prt :=
  [⟨5, a, a + 1⟩] ++ (if 0 < closS (s.drop 1) then [⟨6, a + 1, a + 1 + closS (s.drop 1)⟩] else []) ++ (if closS (s.drop 1) + 1 < s.length then [⟨5, a + 1 + closS (s.drop 1), a + 2 + closS (s.drop 1)⟩] else [])
def subN (s : List Int) : Nat := if closS (s.drop 1) + 1 < s.length then closS (s.drop 1) + 2 else closS (s.drop 1) + 1
theorem subN_bd (s : List Int) (h : s ≠ []) : 1 ≤ subN s ∧ subN s ≤ s.length := by
  have h0 : 0 < s.length := List.length_pos_iff.2 h
  have h1 := closS_le _ (s.drop 1) (Nat.le_refl _)
  rw [List.length_drop] at h1
  unfold subN
  split <;> omega
/-- The parts behind the opening of a document type. -/
def partG : Nat → Int → List Int → Bool → List Prt
  | 0, _, _, _ => []
  | f + 1, a, s, op => if s = [] then [] else if s[0]? = some 91 ∧ op = false then subP a s ++ partG f (a + subN s) (s.drop (subN s)) true
    else ⟨if s = [62] then 7 else (wordF s).1, a, a + (wordF s).2⟩ :: partG f (a + (wordF s).2) (s.drop (wordF s).2) op
def partX (a : Int) (s : List Int) (op : Bool) : List Prt := partG s.length a s op
theorem partG_fuel : ∀ (f : Nat) (a : Int) (s : List Int) (op : Bool), s.length ≤ f → partG f a s op = partG s.length a s op
  | 0, a, s, op, h => by
    have : s = [] := List.eq_nil_of_length_eq_zero (by omega)
    subst this
    rfl
  | f + 1, a, s, op, h => by
    by_cases hs : s = []
    · subst hs
      simp [partG]
    · obtain ⟨h1, h2⟩ := wordF_bd s hs
      obtain ⟨h3, h4⟩ := subN_bd s hs
      obtain ⟨m, hm⟩ : ∃ m, s.length = m + 1 := ⟨s.length - 1, by omega⟩
      rw [partG, if_neg hs, hm, partG, if_neg hs]
      split
      · rw [partG_fuel f _ _ _ (by rw [List.length_drop]; omega), partG_fuel m _ _ _ (by rw [List.length_drop]; omega)]
      · rw [partG_fuel f _ _ _ (by rw [List.length_drop]; omega), partG_fuel m _ _ _ (by rw [List.length_drop]; omega)]
theorem partX_nil (a : Int) (op : Bool) : partX a [] op = [] := rfl
theorem partX_sub (a : Int) {s : List Int} (h : s[0]? = some 91) : partX a s false = subP a s ++ partX (a + subN s) (s.drop (subN s)) true := by
  have hs : s ≠ [] := by
    rintro rfl
    simp at h
  obtain ⟨h3, h4⟩ := subN_bd s hs
  obtain ⟨m, hm⟩ : ∃ m, s.length = m + 1 := ⟨s.length - 1, by omega⟩
  unfold partX
  rw [hm, partG, if_neg hs, if_pos ⟨h, rfl⟩, partG_fuel m _ _ _ (by rw [List.length_drop]; omega)]
theorem partX_word (a : Int) {s : List Int} {op : Bool} (hs : s ≠ []) (h : ¬ (s[0]? = some 91 ∧ op = false)) : partX a s op = ⟨if s = [62] then 7 else (wordF s).1, a, a + (wordF s).2⟩ :: partX (a + (wordF s).2) (s.drop (wordF s).2) op := by
  obtain ⟨h1, h2⟩ := wordF_bd s hs
  obtain ⟨m, hm⟩ : ∃ m, s.length = m + 1 := ⟨s.length - 1, by omega⟩
  unfold partX
  rw [hm, partG, if_neg hs, if_neg h, partG_fuel m _ _ _ (by rw [List.length_drop]; omega)]
/-- All parts. -/
def partL (l : List Int) (f t : Int) : List Prt := if f < 0 ∨ t < f ∨ (l.length : Int) < t then []
  else if startsF dts ((l.take t.toNat).drop f.toNat) then ⟨1, f, f + 9⟩ :: partX (f + 9) ((l.take t.toNat).drop (f.toNat + 9)) false
  else chainX wordF f ((l.take t.toNat).drop f.toNat)
end Go.Proofs.Ytnfcfpcpfnhcnaa
