/- Layer 7 in plain words: finding, quotes, angles, declarations, document types, tokens. No program in sight. -/
import Derived.Test.YtnfcfpcpfnhcnaaStarts
import Derived.Test.YtnfcfpcpfnhcnaaRefsP
namespace Go.Proofs.Ytnfcfpcpfnhcnaa

theorem findF_hit {p s : List Int} (h : startsF p s = true) : findF p s = some 0 := by
  cases s <;> simp [findF, h]
theorem findF_step {p l : List Int} {k : Nat} {x : Int} (h : l[k]? = some x) (hs : startsF p (l.drop k) = false) : findF p (l.drop k) = (findF p (l.drop (k + 1))).map (· + 1) := by
  rw [drop_get h] at hs ⊢
  simp [findF, hs]
theorem findF_short {p : List Int} : ∀ {s : List Int}, s.length < p.length → findF p s = none
  | [], h => by simp [findF, startsF_short h]
  | x :: s, h => by
    have h' : s.length < p.length := by simp at h; omega
    simp [findF, startsF_short h, findF_short h']
theorem findF_le {p : List Int} : ∀ {s : List Int} {k : Nat}, findF p s = some k → k + p.length ≤ s.length
  | [], k, h => by
    unfold findF at h
    split at h
    · rename_i h1
      have := List.IsPrefix.length_le (List.isPrefixOf_iff_prefix.1 h1)
      injection h with h
      subst h
      rw [Nat.zero_add]
      exact this
    · cases h
  | x :: s, k, h => by
    unfold findF at h
    split at h
    · rename_i h1
      have := List.IsPrefix.length_le (List.isPrefixOf_iff_prefix.1 h1)
      injection h with h
      omega
    · cases h1 : findF p s with
      | none => simp [h1] at h
      | some j =>
        simp [h1] at h
        have := findF_le h1
        simp
        omega

theorem closeF_yes {q : Int} {l : List Int} {k : Nat} (h : l[k]? = some q) : closeF q (l.drop k) = some 0 := by
  rw [drop_get h, closeF, List.findIdx?_cons]
  simp
theorem closeF_no {q x : Int} {l : List Int} {k : Nat} (h : l[k]? = some x) (hx : x ≠ q) : closeF q (l.drop k) = (closeF q (l.drop (k + 1))).map (· + 1) := by
  rw [drop_get h, closeF, List.findIdx?_cons]
  simp [hx, closeF]
theorem closeF_end {q : Int} {l : List Int} {k : Nat} (h : l.length ≤ k) : closeF q (l.drop k) = none := by
  rw [List.drop_eq_nil_of_le h]
  rfl
theorem closeF_cons {q x : Int} {s : List Int} : closeF q (x :: s) = if x = q then some 0 else (closeF q s).map (· + 1) := by
  unfold closeF
  rw [List.findIdx?_cons]
  by_cases h : x = q <;> simp [h]
theorem closeF_lt {q : Int} : ∀ {s : List Int} {k : Nat}, closeF q s = some k → k < s.length
  | [], _, h => by simp [closeF] at h
  | x :: s, k, h => by
    rw [closeF_cons] at h
    split at h
    · injection h with h
      simp
      omega
    · cases h1 : closeF q s with
      | none => simp [h1] at h
      | some j =>
        simp [h1] at h
        have := closeF_lt h1
        simp
        omega

/-- So many more. -/
def shiftF (k : Nat) (r : Nat × Bool) : Nat × Bool := (r.1 + k, r.2)
theorem shiftF_shiftF (j k : Nat) (r : Nat × Bool) : shiftF j (shiftF k r) = shiftF (k + j) r := by simp [shiftF, Nat.add_assoc]
theorem angleF_in {st : Bool} {q : Int} (hq : q ≠ 0) : ∀ s : List Int, angleF st q s = match closeF q s with | some j => shiftF (j + 1) (angleF st 0 (s.drop (j + 1))) | none => (s.length, false)
  | [] => rfl
  | x :: s => by
    have hb : (q == 0) = false := by simpa using hq
    rw [angleF, hb, closeF_cons]
    by_cases h : x = q
    · simp [h, shiftF]
    · have h' : (x == q) = false := by simpa using h
      simp only [h', if_neg h, Bool.false_eq_true, if_false]
      rw [angleF_in hq s]
      cases closeF q s with
      | none => simp
      | some j => simp [shiftF, Nat.add_assoc]
theorem quote_ne {x : Int} (h : isQuote x = true) : x ≠ 0 := by
  rintro rfl
  cases h
theorem angleF_quote {st : Bool} {l : List Int} {k j : Nat} {x : Int} (h : l[k]? = some x) (hq : isQuote x = true) (hj : closeF x (l.drop (k + 1)) = some j) : angleF st 0 (l.drop k) = shiftF (j + 2) (angleF st 0 (l.drop (k + (j + 2)))) := by
  rw [drop_get h, angleF]
  simp only [beq_self_eq_true, hq, if_true]
  rw [angleF_in (quote_ne hq), hj]
  simp only [List.drop_drop, show k + 1 + (j + 1) = k + (j + 2) by omega]
  simp [shiftF, Nat.add_assoc]
theorem angleF_open {st : Bool} {l : List Int} {k : Nat} {x : Int} (h : l[k]? = some x) (hq : isQuote x = true) (hj : closeF x (l.drop (k + 1)) = none) : angleF st 0 (l.drop k) = (l.length - k, false) := by
  have hk := (List.getElem?_eq_some_iff.1 h).1
  rw [drop_get h, angleF]
  simp only [beq_self_eq_true, hq, if_true]
  rw [angleF_in (quote_ne hq), hj, List.length_drop]
  simp
  omega
theorem angleF_gt {st : Bool} {l : List Int} {k : Nat} (h : l[k]? = some 62) : angleF st 0 (l.drop k) = (0, true) := by
  rw [drop_get h, angleF]
  rfl
theorem angleF_lt {l : List Int} {k : Nat} (h : l[k]? = some 60) : angleF true 0 (l.drop k) = (0, false) := by
  rw [drop_get h, angleF]
  rfl
theorem angleF_on {st : Bool} {l : List Int} {k : Nat} {x : Int} (h : l[k]? = some x) (hq : isQuote x = false) (h62 : x ≠ 62) (h60 : (x == 60 && st) = false) : angleF st 0 (l.drop k) = shiftF 1 (angleF st 0 (l.drop (k + 1))) := by
  rw [drop_get h, angleF]
  simp [hq, h62, h60, shiftF]
theorem angleF_end {st : Bool} {l : List Int} {k : Nat} (h : l.length ≤ k) : angleF st 0 (l.drop k) = (0, false) := by
  rw [List.drop_eq_nil_of_le h]
  rfl
/-- The place lies within; one that was found, ahead of the end; one that was not, with nothing that stops, at the end. -/
theorem angleF_le (st : Bool) : ∀ (s : List Int) (q : Int), (angleF st q s).1 ≤ s.length ∧ ((angleF st q s).2 = true → (angleF st q s).1 < s.length) ∧ (st = false → (angleF st q s).2 = false → (angleF st q s).1 = s.length)
  | [], _ => ⟨Nat.le_refl _, fun h => by simp [angleF] at h, fun _ _ => rfl⟩
  | x :: s, q => by
    unfold angleF
    split
    · split
      · obtain ⟨h1, h2, h3⟩ := angleF_le st s x
        refine ⟨by simpa using h1, fun h => by simpa using h2 h, fun h h' => by simpa using h3 h h'⟩
      · split
        · exact ⟨by simp, fun _ => by simp, fun _ h => by cases h⟩
        · split
          · rename_i h4
            refine ⟨by simp, (fun h => by cases h), fun h => ?_⟩
            rw [h] at h4
            simp at h4
          · obtain ⟨h1, h2, h3⟩ := angleF_le st s 0
            refine ⟨by simpa using h1, fun h => by simpa using h2 h, fun h h' => by simpa using h3 h h'⟩
    · obtain ⟨h1, h2, h3⟩ := angleF_le st s (if x == q then 0 else q)
      refine ⟨by simpa using h1, fun h => by simpa using h2 h, fun h h' => by simpa using h3 h h'⟩

/-- A start tag. -/
def startTk (s : List Int) : Tok :=
  if (angleF true 0 (s.drop 1)).2 then (if s.getD (angleF true 0 (s.drop 1)).1 0 = 47 then ⟨9, (angleF true 0 (s.drop 1)).1 + 2, true⟩ else ⟨8, (angleF true 0 (s.drop 1)).1 + 2, true⟩)
  else ⟨8, (angleF true 0 (s.drop 1)).1 + 1, false⟩
def noEnd (x : Int) : Bool := x != 62 && x != 60
/-- An end tag. -/
def endTk (s : List Int) : Tok :=
  match s[runF noEnd (s.drop 2) + 2]? with
  | some x => if x = 62 then ⟨10, runF noEnd (s.drop 2) + 3, true⟩ else ⟨10, runF noEnd (s.drop 2) + 2, false⟩
  | none => ⟨10, s.length, false⟩
def cmt : List Int := [60, 33, 45, 45]
def cmt2 : List Int := [45, 45, 62]
def pis : List Int := [60, 63]
def pis2 : List Int := [63, 62]
def cda : List Int := [60, 33, 91, 67, 68, 65, 84, 65, 91]
def cda2 : List Int := [93, 93, 62]
def dts : List Int := [60, 33, 68, 79, 67, 84, 89, 80, 69]
/-- What begins in a subset: how many runes, and whether it ends. -/
def declF (s : List Int) : Nat × Bool :=
  if startsF cmt s then ((upToF 4 4 cmt2 s).to, (upToF 4 4 cmt2 s).whole)
  else if startsF pis s then ((upToF 5 2 pis2 s).to, (upToF 5 2 pis2 s).whole)
  else if s.head? = some 60 then (min ((angleF false 0 s).1 + 1) s.length, (angleF false 0 s).2)
  else (1, true)
/-- A subset behind its [. -/
def subG : List Int → Nat × Bool
  | [] => (0, false)
  | x :: t =>
    if x = 93 then (1, true)
    else if (declF (x :: t)).2 then shiftF (declF (x :: t)).1 (subG (t.drop ((declF (x :: t)).1 - 1)))
    else (t.length + 1, false)
termination_by s => s.length
decreasing_by simp; omega
/-- A document type behind its beginning. -/
def dtG : List Int → Nat × Bool
  | [] => (0, false)
  | x :: t =>
    if x = 62 then (1, true)
    else if isQuote x then (match closeF x t with | some j => shiftF (j + 2) (dtG (t.drop (j + 1))) | none => (t.length + 1, false))
    else if x = 91 then (if (subG t).2 then shiftF ((subG t).1 + 1) (dtG (t.drop (subG t).1)) else (t.length + 1, false))
    else shiftF 1 (dtG t)
termination_by s => s.length
decreasing_by all_goals simp; try omega
def dtTk (s : List Int) : Tok := ⟨7, (dtG (s.drop 9)).1 + 9, (dtG (s.drop 9)).2⟩
def markTk (s : List Int) : Tok :=
  if startsF cmt s then upToF 4 4 cmt2 s
  else if startsF cda s then upToF 6 9 cda2 s
  else if startsF pis s then upToF 5 2 pis2 s
  else if startsF dts s then dtTk s
  else if startsF [60, 47] s then endTk s
  else if 0 < leadF (s.drop 1) then startTk s
  else ⟨11, 1, false⟩
def plainR (x : Int) : Bool := x != 60 && x != 38 && x != -1
/-- The token that begins there. -/
def nextTk (s : List Int) : Tok :=
  match s.head? with
  | none => ⟨0, 0, false⟩
  | some x => if x = 60 then markTk s else if x = 38 then ⟨(refT s).1, (refT s).2, (refT s).1 != 11⟩ else if x = -1 then ⟨11, 1, false⟩ else ⟨1, runF plainR s, true⟩

theorem startsF_len {p s : List Int} (h : startsF p s = true) : p.length ≤ s.length := by
  have := List.isPrefixOf_iff_prefix.1 h
  exact this.length_le
theorem upToF_le {kind : Int} {skip : Nat} {e s : List Int} (hs : skip ≤ s.length) : skip ≤ (upToF kind skip e s).to ∧ (upToF kind skip e s).to ≤ s.length ∧ (upToF kind skip e s).kind = kind ∧ ((upToF kind skip e s).whole = false → (upToF kind skip e s).to = s.length) := by
  unfold upToF
  split
  · rename_i k hk
    have := findF_le hk
    rw [List.length_drop] at this
    exact ⟨by simp; omega, by simp; omega, rfl, fun h => by cases h⟩
  · exact ⟨hs, Nat.le_refl _, rfl, fun _ => rfl⟩
theorem declF_le {s : List Int} (hs : s ≠ []) : 1 ≤ (declF s).1 ∧ (declF s).1 ≤ s.length ∧ ((declF s).2 = false → (declF s).1 = s.length) := by
  have h0 : 0 < s.length := List.length_pos_iff.2 hs
  unfold declF
  split
  · rename_i h
    have h1 := startsF_len h
    obtain ⟨h2, h3, _, h5⟩ := upToF_le (kind := 4) (skip := 4) (e := cmt2) (s := s) h1
    exact ⟨by omega, h3, h5⟩
  · split
    · rename_i h
      have h1 := startsF_len h
      obtain ⟨h2, h3, _, h5⟩ := upToF_le (kind := 5) (skip := 2) (e := pis2) (s := s) h1
      exact ⟨by omega, h3, h5⟩
    · split
      · obtain ⟨h1, h2, h3⟩ := angleF_le false s 0
        refine ⟨by simp; omega, by simp; omega, fun h => ?_⟩
        have := h3 rfl h
        simp
        omega
      · exact ⟨Nat.le_refl _, h0, fun h => by cases h⟩
theorem subG_le : ∀ s : List Int, (subG s).1 ≤ s.length ∧ ((subG s).2 = true → 1 ≤ (subG s).1) ∧ ((subG s).2 = false → (subG s).1 = s.length)
  | [] => by rw [subG]; exact ⟨by simp, (fun h => by cases h), fun _ => rfl⟩
  | x :: t => by
    rw [subG]
    split
    · exact ⟨by simp, fun _ => Nat.le_refl _, fun h => by cases h⟩
    · obtain ⟨h1, h2, _⟩ := declF_le (s := x :: t) (by simp)
      split
      · obtain ⟨k1, k2, k3⟩ := subG_le (t.drop ((declF (x :: t)).1 - 1))
        rw [List.length_drop] at k1 k3
        simp at h2
        refine ⟨by simp [shiftF]; omega, fun h => by simp [shiftF]; omega, fun h => ?_⟩
        have := k3 h
        simp [shiftF]
        omega
      · exact ⟨by simp, (fun h => by cases h), fun _ => rfl⟩
termination_by s => s.length
decreasing_by simp; omega
theorem dtG_le : ∀ s : List Int, (dtG s).1 ≤ s.length
  | [] => by rw [dtG]; simp
  | x :: t => by
    rw [dtG]
    split
    · simp
    · split
      · split
        · rename_i j hj
          have := dtG_le (t.drop (j + 1))
          have h2 := closeF_lt hj
          rw [List.length_drop] at this
          simp [shiftF]
          omega
        · simp
      · split
        · split
          · have := dtG_le (t.drop (subG t).1)
            have h2 := (subG_le t).1
            rw [List.length_drop] at this
            simp [shiftF]
            omega
          · simp
        · have := dtG_le t
          simp [shiftF]
          omega
termination_by s => s.length
decreasing_by all_goals simp; try omega
end Go.Proofs.Ytnfcfpcpfnhcnaa
