/- Insertion from behind, row by row, and by swaps in an array; changes of bytes as plain data. No program in sight. -/
import Derived.Sort.Defs
namespace Go.Proofs.Ytdfipecgalnioaa

section
variable {α : Type} (lt : α → α → Bool)
/-- Put into a reversed row: ahead of all at its end that it stands ahead of. -/
def insR (c : α) : List α → List α
  | [] => [c]
  | y :: r => if lt c y then y :: insR c r else c :: y :: r
def sortR (l : List α) : List α := l.foldl (fun r c => insR lt c r) []
def sortF (l : List α) : List α := (sortR lt l).reverse

theorem insR_len (c : α) : ∀ r, (insR lt c r).length = r.length + 1
  | [] => rfl
  | y :: r => by
    unfold insR
    split
    · rw [List.length_cons, insR_len c r, List.length_cons]
    · rfl
theorem fold_len : ∀ (l r : List α), (l.foldl (fun r c => insR lt c r) r).length = r.length + l.length
  | [], r => rfl
  | c :: l, r => by
    rw [List.foldl_cons, fold_len l, insR_len, List.length_cons]
    omega
theorem sortF_len (l : List α) : (sortF lt l).length = l.length := by
  unfold sortF sortR
  rw [List.length_reverse, fold_len]
  simp
theorem insR_mem {c x : α} : ∀ {r : List α}, x ∈ insR lt c r ↔ x = c ∨ x ∈ r
  | [] => by simp [insR]
  | y :: r => by
    unfold insR
    split
    · rw [List.mem_cons, insR_mem, List.mem_cons]
      constructor
      · rintro (h | h | h)
        · exact .inr (.inl h)
        · exact .inl h
        · exact .inr (.inr h)
      · rintro (h | h | h)
        · exact .inr (.inl h)
        · exact .inl h
        · exact .inr (.inr h)
    · rw [List.mem_cons]
theorem fold_mem {x : α} : ∀ (l r : List α), x ∈ l.foldl (fun r c => insR lt c r) r ↔ x ∈ l ∨ x ∈ r
  | [], r => by simp
  | c :: l, r => by
    rw [List.foldl_cons, fold_mem l, insR_mem, List.mem_cons]
    constructor
    · rintro (h | h | h)
      · exact .inl (.inr h)
      · exact .inl (.inl h)
      · exact .inr h
    · rintro ((h | h) | h)
      · exact .inr (.inl h)
      · exact .inl h
      · exact .inr (.inr h)
theorem sortF_mem {x : α} {l : List α} : x ∈ sortF lt l ↔ x ∈ l := by
  unfold sortF sortR
  rw [List.mem_reverse, fold_mem]
  simp
theorem sortF_snoc (l : List α) (c : α) : sortF lt (l ++ [c]) = (insR lt c (sortR lt l)).reverse := by
  unfold sortF sortR
  rw [List.foldl_append]
  rfl
/-- Each does not stand ahead of the one before. -/
def ChainR : List α → Prop
  | [] => True
  | [_] => True
  | y :: c :: l => lt c y = false ∧ ChainR (c :: l)
/-- What is sorted stays. -/
theorem fold_stays : ∀ (l r : List α), (∀ y c, r.head? = some y → l.head? = some c → lt c y = false) → ChainR lt l → l.foldl (fun r c => insR lt c r) r = l.reverse ++ r
  | [], r, _, _ => rfl
  | c :: l, r, h, hc => by
    have h1 : insR lt c r = c :: r := by
      cases r with
      | nil => rfl
      | cons y r =>
        unfold insR
        rw [h y c rfl rfl]
        rfl
    rw [List.foldl_cons, h1, fold_stays l (c :: r) ?_ ?_, List.reverse_cons, List.append_assoc]
    · rfl
    · intro y d hy hd
      simp at hy
      subst hy
      cases l with
      | nil => simp at hd
      | cons e l =>
        simp at hd
        subst hd
        exact hc.1
    · cases l with
      | nil => trivial
      | cons e l => exact hc.2
theorem sortF_stays {l : List α} (h : ChainR lt l) : sortF lt l = l := by
  unfold sortF sortR
  rw [fold_stays lt l [] (fun y c h => by cases h) h, List.append_nil, List.reverse_reverse]

section
variable {β : Type} {lt' : β → β → Bool} {g : α → β} 
theorem insR_map (h : ∀ x y, lt' (g x) (g y) = lt x y) (c : α) : ∀ r, (insR lt c r).map g = insR lt' (g c) (r.map g)
  | [] => rfl
  | y :: r => by
    unfold insR
    rw [List.map_cons]
    simp only [h]
    split
    · rw [List.map_cons, insR_map h c r]
    · rfl
theorem fold_map (h : ∀ x y, lt' (g x) (g y) = lt x y) : ∀ (l r : List α), (l.foldl (fun r c => insR lt c r) r).map g = (l.map g).foldl (fun r c => insR lt' c r) (r.map g)
  | [], r => rfl
  | c :: l, r => by rw [List.foldl_cons, fold_map h l, insR_map lt h, List.map_cons, List.foldl_cons]
theorem sortF_map (h : ∀ x y, lt' (g x) (g y) = lt x y) (l : List α) : (sortF lt l).map g = sortF lt' (l.map g) := by
  unfold sortF sortR
  rw [List.map_reverse, fold_map lt h]
  rfl
end

variable [Inhabited α]
theorem insInner_list : ∀ (r : List α) (d : Array α) (c : α) (rest : List α), d.toList = r.reverse ++ c :: rest → (Go.Sort.insInner lt 0 r.length d).toList = (insR lt c r).reverse ++ rest
  | [], d, c, rest, h => by simpa [Go.Sort.insInner, insR] using h
  | y :: r, d, c, rest, h => by
    have hd : d = (r.reverse ++ y :: c :: rest).toArray := by
      apply Array.toList_inj.1
      rw [h]
      simp
    have g1 : d[r.length + 1]! = c := by
      rw [hd]
      simp
    have g0 : d[r.length]! = y := by
      rw [hd]
      simp
    unfold insR
    rw [List.length_cons]
    unfold Go.Sort.insInner
    rw [g1, g0]
    by_cases hl : lt c y = true
    · rw [if_pos (by simp [hl]), if_pos hl, insInner_list r _ c (y :: rest) ?_]
      · simp
      · unfold Go.Sort.swp
        rw [g1, g0, hd]
        simp
    · rw [if_neg (by simp [hl]), if_neg hl, h]
      simp
theorem insOuter_list : ∀ (l r : List α) (d : Array α), d.toList = r.reverse ++ l → (Go.Sort.insOuter lt 0 d.size r.length d).toList = (l.foldl (fun r c => insR lt c r) r).reverse
  | [], r, d, h => by
    have hs : d.size = r.length := by rw [← Array.length_toList, h]; simp
    unfold Go.Sort.insOuter
    rw [if_neg (by omega), h]
    simp
  | c :: l, r, d, h => by
    have hs : d.size = r.length + l.length + 1 := by rw [← Array.length_toList, h]; simp; omega
    have h1 := insInner_list lt r d c l h
    have hs1 : (Go.Sort.insInner lt 0 r.length d).size = d.size := by
      rw [← Array.length_toList, h1]
      simp [insR_len]
      omega
    have := insOuter_list l (insR lt c r) _ h1
    rw [hs1, insR_len] at this
    unfold Go.Sort.insOuter
    rw [if_pos (by omega), this, List.foldl_cons]
theorem insertionSort_list (d : Array α) : (Go.Sort.insertionSort lt d 0 d.size).toList = sortF lt d.toList := by
  unfold Go.Sort.insertionSort sortF sortR
  cases hd : d.toList with
  | nil =>
    have hs : d.size = 0 := by rw [← Array.length_toList, hd]; rfl
    unfold Go.Sort.insOuter
    rw [if_neg (by omega), hd]
    rfl
  | cons c l =>
    have := insOuter_list lt l [c] d (by rw [hd]; rfl)
    rw [List.foldl_cons]
    exact this
end
end Go.Proofs.Ytdfipecgalnioaa
