/- Bindings each prefix of which stands once; their order. No program in sight. -/
import Derived.Test.YtdlgjbijnhfbhaaScoP
import Derived.Test.YtdlgjbijnhfbhaaSortK
namespace Go.Proofs.Ytdlgjbijnhfbhaa
open Go.RowKit Go.Lib Go.Sort Go.Op

def hasP (p : ByteArray) (l : List Bd) : Bool := l.any (fun o => eqS o.p p)
def nubF : List Bd → List Bd → List Bd
  | acc, [] => acc
  | acc, b :: l => if hasP b.p acc then nubF acc l else nubF (acc ++ [b]) l
theorem hasP_iff {p : ByteArray} {l : List Bd} : hasP p l = true ↔ p ∈ l.map Bd.p := by
  unfold hasP
  rw [List.any_eq_true, List.mem_map]
  constructor
  · rintro ⟨x, hx, e⟩
    exact ⟨x, hx, eqS_iff.1 e⟩
  · rintro ⟨x, hx, e⟩
    exact ⟨x, hx, eqS_iff.2 e⟩
theorem findB_has {p : ByteArray} {l : List Bd} : (findB p l).isSome = hasP p l := by
  unfold findB hasP
  rw [Bool.eq_iff_iff, List.find?_isSome, List.any_eq_true]
theorem find_nub (p : ByteArray) : ∀ (l acc : List Bd), findB p (nubF acc l) = findB p (acc ++ l)
  | [], acc => by simp [nubF]
  | b :: l, acc => by
    unfold nubF
    split
    · rename_i h
      rw [find_nub p l acc, findB_append, findB_append]
      cases hz : findB p acc with
      | some x => rfl
      | none =>
        rw [Option.none_or, Option.none_or]
        have hb : eqS b.p p = false := by
          rw [Bool.eq_false_iff]
          intro e
          have e' := eqS_iff.1 e
          subst e'
          rw [← findB_has, hz] at h
          cases h
        unfold findB
        rw [List.find?_cons, hb]
    · rw [find_nub p l, List.append_assoc]
      rfl
theorem has_nub (p : ByteArray) (l acc : List Bd) : hasP p (nubF acc l) = hasP p (acc ++ l) := by
  rw [← findB_has, ← findB_has, find_nub]
def nodupP (l : List Bd) : Prop := (l.map Bd.p).Nodup
theorem nub_nodup : ∀ (l acc : List Bd), nodupP acc → nodupP (nubF acc l)
  | [], acc, h => h
  | b :: l, acc, h => by
    unfold nubF
    split
    · exact nub_nodup l acc h
    · rename_i hb
      refine nub_nodup l _ ?_
      unfold nodupP at h ⊢
      rw [List.map_append, List.nodup_append]
      refine ⟨h, by simp, ?_⟩
      intro a ha c hc
      simp at hc
      subst hc
      intro e
      subst e
      exact hb (hasP_iff.2 ha)
theorem nub_len : ∀ (l acc : List Bd), (nubF acc l).length ≤ acc.length + l.length
  | [], acc => by simp [nubF]
  | b :: l, acc => by
    unfold nubF
    split
    · have := nub_len l acc
      simp
      omega
    · have := nub_len l (acc ++ [b])
      simp at this ⊢
      omega
theorem nub_snoc : ∀ (l acc : List Bd) (b : Bd), nubF acc (l ++ [b]) = if hasP b.p (nubF acc l) then nubF acc l else nubF acc l ++ [b]
  | [], acc, b => rfl
  | x :: l, acc, b => by
    rw [List.cons_append]
    show (if hasP x.p acc then nubF acc (l ++ [b]) else nubF (acc ++ [x]) (l ++ [b])) = _
    have e : nubF acc (x :: l) = if hasP x.p acc then nubF acc l else nubF (acc ++ [x]) l := rfl
    rw [e]
    split
    · exact nub_snoc l acc b
    · exact nub_snoc l (acc ++ [x]) b
theorem len_le {α : Type} [DecidableEq α] : ∀ {a b : List α}, a.Nodup → a ⊆ b → a.length ≤ b.length
  | [], _, _, _ => by simp
  | x :: a, b, h, hs => by
    have hx : x ∈ b := hs (by simp)
    have h1 : a ⊆ b.erase x := by
      intro y hy
      refine (List.mem_erase_of_ne ?_).2 (hs (by simp [hy]))
      intro e
      subst e
      exact (List.nodup_cons.1 h).1 hy
    have := len_le (List.nodup_cons.1 h).2 h1
    rw [List.length_erase_of_mem hx] at this
    have : 0 < b.length := List.length_pos_of_mem hx
    simp
    omega
/-- How many prefixes there are does not hang on the order. -/
theorem nub_count {l l' : List Bd} (h : ∀ x, x ∈ l ↔ x ∈ l') : (nubF [] l).length = (nubF [] l').length := by
  have key : ∀ {l l' : List Bd}, (∀ x, x ∈ l ↔ x ∈ l') → (nubF [] l).length ≤ (nubF [] l').length := by
    intro l l' h
    have := len_le (a := (nubF [] l).map Bd.p) (b := (nubF [] l').map Bd.p) (nub_nodup l [] (by simp [nodupP])) (by
      intro p hp
      rw [← hasP_iff, has_nub, List.nil_append, hasP_iff] at hp ⊢
      obtain ⟨x, hx, e⟩ := List.mem_map.1 hp
      exact List.mem_map.2 ⟨x, (h x).1 hx, e⟩)
    simpa using this
  exact Nat.le_antisymm (key h) (key fun x => (h x).symm)
theorem find_of_nodup : ∀ {l : List Bd}, nodupP l → ∀ {b : Bd}, b ∈ l → findB b.p l = some b
  | [], _, b, h => by cases h
  | x :: l, h, b, hb => by
    unfold nodupP at h
    rw [List.map_cons, List.nodup_cons] at h
    unfold findB
    rw [List.find?_cons]
    cases he : eqS x.p b.p with
    | true =>
      have e := eqS_iff.1 he
      rcases List.mem_cons.1 hb with rfl | hb
      · rfl
      · exact absurd (List.mem_map.2 ⟨b, hb, e.symm⟩) h.1
    | false =>
      rcases List.mem_cons.1 hb with rfl | hb
      · rw [eqS_iff.2 rfl] at he
        cases he
      · exact find_of_nodup h.2 hb
theorem mem_rev_flat (ls : List (List Bd)) (x : Bd) : x ∈ ls.reverse.flatten ↔ x ∈ ls.flatten := by
  simp [List.mem_flatten]

/-! The order of prefixes. -/
theorem less_irrefl : ∀ x : List UInt8, bytesLess x x = false
  | [] => rfl
  | a :: x => by
    unfold bytesLess
    rw [less_irrefl x]
    simp
theorem less_trans : ∀ x y z : List UInt8, bytesLess x y = true → bytesLess y z = true → bytesLess x z = true
  | _, [], _, h, _ => by cases ‹List UInt8› <;> simp [bytesLess] at h
  | _, _ :: _, [], _, h => by simp [bytesLess] at h
  | [], _ :: _, _ :: _, _, _ => by simp [bytesLess]
  | a :: x, b :: y, c :: z, h1, h2 => by
    simp only [bytesLess, Bool.or_eq_true, Bool.and_eq_true, decide_eq_true_eq, beq_iff_eq] at h1 h2 ⊢
    rcases h1 with h1 | ⟨rfl, h1⟩
    · rcases h2 with h2 | ⟨rfl, h2⟩
      · exact .inl (UInt8.lt_trans h1 h2)
      · exact .inl h1
    · rcases h2 with h2 | ⟨rfl, h2⟩
      · exact .inl h2
      · exact .inr ⟨rfl, less_trans x y z h1 h2⟩
theorem less_total : ∀ x y : List UInt8, bytesLess x y = false → bytesLess y x = false → x = y
  | [], [], _, _ => rfl
  | [], _ :: _, h, _ => by simp [bytesLess] at h
  | _ :: _, [], _, h => by simp [bytesLess] at h
  | a :: x, b :: y, h1, h2 => by
    simp only [bytesLess, Bool.or_eq_false_iff, decide_eq_false_iff_not, Bool.and_eq_false_iff, beq_eq_false_iff_ne] at h1 h2
    obtain ⟨g1, h1⟩ := h1
    obtain ⟨g2, h2⟩ := h2
    have e : a = b := by
      have := UInt8.not_lt.1 g1
      have := UInt8.not_lt.1 g2
      exact UInt8.le_antisymm ‹_› ‹_›
    subst e
    simp at h1 h2
    rw [less_total x y h1 h2]
def ltB (x y : Bd) : Bool := bytesLess x.p.toList y.p.toList
def cmpS (x y : ByteArray) : Int := if bytesLess x.toList y.toList then -1 else if bytesLess y.toList x.toList then 1 else 0
def cmpB (x y : Bd) : Int := cmpS x.p y.p
theorem lt_cmpB (x y : Bd) : ltOf cmpB x y = ltB x y := by
  unfold ltOf cmpB ltB cmpS
  cases bytesLess x.p.toList y.p.toList
  · simp
    split <;> omega
  · simp
theorem swo_cmpB : SWO (ltOf cmpB) := by
  refine ⟨fun x => ?_, fun x y z => ?_, fun x y z => ?_⟩
  · rw [lt_cmpB]
    exact less_irrefl _
  · rw [lt_cmpB, lt_cmpB, lt_cmpB]
    exact less_trans _ _ _
  · rw [lt_cmpB, lt_cmpB, lt_cmpB]
    intro h1 h2
    cases h3 : ltB x z with
    | false => rfl
    | true =>
      unfold ltB at h1 h2 h3
      cases h4 : bytesLess y.p.toList x.p.toList with
      | true =>
        rw [less_trans _ _ _ h4 h3] at h2
        cases h2
      | false =>
        rw [less_total _ _ h1 h4, h2] at h3
        cases h3
theorem toList_inj {x y : ByteArray} (h : x.toList = y.toList) : x = y := eqS_iff.1 (by unfold eqS; rw [h]; simp)
/-- Sorted, and each prefix once: strictly. -/
theorem strict {L : List Bd} (hs : SortedIn (ltOf cmpB) 0 L.length L.toArray) (hn : nodupP L) {i : Nat} {x y : Bd} (hx : L[i]? = some x) (hy : L[i + 1]? = some y) : bytesLess x.p.toList y.p.toList = true := by
  obtain ⟨h1, rfl⟩ := List.getElem?_eq_some_iff.1 hx
  obtain ⟨h2, rfl⟩ := List.getElem?_eq_some_iff.1 hy
  have h := hs i (i + 1) (Nat.zero_le _) (by omega) h2
  rw [lt_cmpB] at h
  have e1 : L.toArray[i]! = L[i] := by simp [h1]
  have e2 : L.toArray[i + 1]! = L[i + 1] := by simp [h2]
  rw [e1, e2] at h
  cases h3 : bytesLess (L[i]).p.toList (L[i + 1]).p.toList with
  | true => rfl
  | false =>
    have e := toList_inj (less_total _ _ h3 h)
    unfold nodupP at hn
    exfalso
    have := List.getElem_inj (h₀ := by simpa using h1) (h₁ := by simpa using h2) hn |>.1 (by simpa using e)
    omega
end Go.Proofs.Ytdlgjbijnhfbhaa
