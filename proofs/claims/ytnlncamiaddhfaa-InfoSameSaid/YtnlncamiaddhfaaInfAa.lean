/- Alike but for prefixes, in plain words: attributes as bags of keys. No program in sight. -/
import Derived.Test.YtnlncamiaddhfaaInfP
namespace Go.Proofs.Ytnlncamiaddhfaa
open Go.RowKit

abbrev Key := List UInt8 × List UInt8 × List UInt8
def keyA (a : Att) : Key := (a.n.u.toList, a.n.l.toList, a.v.toList)
def meansNm (a b : Nm) : Bool := eqS a.u b.u && eqS a.l b.l
def meansA (a b : Att) : Bool := meansNm a.n b.n && eqS a.v b.v
theorem meansA_eq (a b : Att) : meansA a b = (keyA a == keyA b) := by
  unfold meansA meansNm eqS keyA
  rw [Bool.eq_iff_iff]
  simp [and_assoc]
def oftenN (l : List Att) (a : Att) : Nat := (l.map keyA).count (keyA a)
theorem often_take {l : List Att} {j : Nat} {b : Att} (h : l[j]? = some b) (a : Att) : oftenN (l.take (j + 1)) a = oftenN (l.take j) a + (if meansA a b then 1 else 0) := by
  unfold oftenN
  rw [List.take_add_one, h, Option.toList_some, List.map_append, List.count_append, meansA_eq]
  congr 1
  rw [List.map_singleton, List.count_singleton]
  by_cases e : keyA a = keyA b
  · simp [e]
  · have e2 : ¬ keyA b = keyA a := fun h => e h.symm
    simp [e, e2]
theorem often_le (l : List Att) (a : Att) : oftenN l a ≤ l.length := by
  unfold oftenN
  have := List.count_le_length (a := keyA a) (l := l.map keyA)
  simpa using this
/-- As many of each. -/
def attsT (al bl : List Att) : Bool := (al.map keyA).isPerm (bl.map keyA)
theorem attsT_iff {al bl : List Att} : attsT al bl = true ↔ (al.map keyA).Perm (bl.map keyA) := List.isPerm_iff
theorem attsT_comm (al bl : List Att) : attsT al bl = attsT bl al := by
  rw [Bool.eq_iff_iff, attsT_iff, attsT_iff]
  exact ⟨List.Perm.symm, List.Perm.symm⟩
theorem attsT_self (al : List Att) : attsT al al = true := attsT_iff.2 (List.Perm.refl _)
theorem perm_of_counts {A B : List Key} (hl : A.length = B.length) (h : ∀ x ∈ A, A.count x = B.count x) : A.Perm B := by
  have h1 : A.Perm (B.filter (fun x => decide (x ∈ A))) := by
    rw [List.perm_iff_count]
    intro x
    by_cases hx : x ∈ A
    · rw [List.count_filter (by simpa using hx)]
      exact h x hx
    · rw [List.count_eq_zero_of_not_mem hx, List.count_eq_zero_of_not_mem]
      intro hm
      have := (List.mem_filter.1 hm).2
      exact hx (by simpa using this)
  have h2 : (B.filter (fun x => decide (x ∈ A))).length = B.length := by rw [← h1.length_eq, hl]
  have h3 : B.filter (fun x => decide (x ∈ A)) = B := by
    rw [List.filter_eq_self]
    exact List.length_filter_eq_length_iff.1 h2
  rwa [h3] at h1
/-- The program's way: each attribute as often here as there. -/
theorem attsT_count {al bl : List Att} (hl : al.length = bl.length) : attsT al bl = !(al.any (fun x => oftenN al x != oftenN bl x)) := by
  rw [Bool.eq_iff_iff, attsT_iff]
  constructor
  · intro h
    rw [Bool.not_eq_true', List.any_eq_false]
    intro x hx
    unfold oftenN
    rw [List.perm_iff_count.1 h]
    simp
  · intro h
    rw [Bool.not_eq_true', List.any_eq_false] at h
    refine perm_of_counts (by simpa using hl) (fun k hk => ?_)
    obtain ⟨x, hx, rfl⟩ := List.mem_map.1 hk
    have := h x hx
    unfold oftenN at this
    simpa using this
theorem attsT_len {al bl : List Att} (h : al.length ≠ bl.length) : attsT al bl = false := by
  rw [Bool.eq_false_iff]
  intro e
  have := (attsT_iff.1 e).length_eq
  simp at this
  exact h this
/-- The place of the first that means, and has, what one does. -/
def findA (l : List Att) (a : Att) : Option Nat := l.findIdx? (fun b => meansA a b)
theorem findA_none {l : List Att} {a : Att} (h : ∀ b ∈ l, meansA a b = false) : findA l a = none := by
  unfold findA
  rw [List.findIdx?_eq_none_iff]
  exact h
/-- The document's way: one taken away after the other. -/
theorem attsT_step {a : Att} {al bl : List Att} {i : Nat} {b : Att} (hb : bl[i]? = some b) (hm : meansA a b = true) (_ : ∀ c ∈ bl.take i, meansA a c = false) : attsT (a :: al) bl = attsT al (bl.take i ++ bl.drop (i + 1)) := by
  obtain ⟨hi, rfl⟩ := List.getElem?_eq_some_iff.1 hb
  have he : bl.map keyA = (bl.take i).map keyA ++ keyA a :: (bl.drop (i + 1)).map keyA := by
    conv => lhs; rw [← List.take_append_drop i bl, List.drop_eq_getElem_cons hi]
    rw [List.map_append, List.map_cons]
    rw [meansA_eq] at hm
    rw [eq_of_beq hm]
  rw [Bool.eq_iff_iff, attsT_iff, attsT_iff, he, List.map_append, List.map_cons]
  constructor
  · intro h
    exact (h.trans List.perm_middle).cons_inv
  · intro h
    exact (h.cons _).trans List.perm_middle.symm
theorem attsT_none {a : Att} {al bl : List Att} (hn : ∀ c ∈ bl, meansA a c = false) : attsT (a :: al) bl = false := by
  rw [Bool.eq_false_iff]
  intro e
  have h := attsT_iff.1 e
  have h1 : keyA a ∈ bl.map keyA := h.subset (by simp)
  obtain ⟨c, hc, hk⟩ := List.mem_map.1 h1
  have := hn c hc
  rw [meansA_eq, hk] at this
  simp at this
/-- Alike but for prefixes. -/
noncomputable def alikeT (x : Tr) : Tr → Bool := Tr.rec (motive_1 := fun _ => Tr → Bool) (motive_2 := fun _ => List Tr → Bool)
  (fun k n _ al t g _ ih y => match y with
    | .mk k' n' _ al' t' g' ks' => decide (k = k') && meansNm n n' && eqS t t' && eqS g g' && attsT al al' && ih ks')
  (fun l => l.isEmpty)
  (fun _ _ f h l => match l with
    | [] => false
    | y :: ys => f y && h ys) x
noncomputable def alikeL : List Tr → List Tr → Bool
  | [], l => l.isEmpty
  | x :: xs, l => match l with
    | [] => false
    | y :: ys => alikeT x y && alikeL xs ys
theorem alikeT_mk (k : Int) (n : Nm) (bs : List Bd) (al : List Att) (t g : ByteArray) (ks : List Tr) (k' : Int) (n' : Nm) (bs' : List Bd) (al' : List Att) (t' g' : ByteArray) (ks' : List Tr) :
    alikeT (.mk k n bs al t g ks) (.mk k' n' bs' al' t' g' ks') = (decide (k = k') && meansNm n n' && eqS t t' && eqS g g' && attsT al al' && alikeL ks ks') := by
  show (decide (k = k') && meansNm n n' && eqS t t' && eqS g g' && attsT al al' && _) = _
  congr 1
  induction ks generalizing ks' with
  | nil => rfl
  | cons x xs ih =>
    cases ks' with
    | nil => rfl
    | cons y ys => exact congrArg (alikeT x y && ·) (ih ys)
theorem eqS_comm (x y : ByteArray) : eqS x y = eqS y x := by
  rw [Bool.eq_iff_iff, eqS_iff, eqS_iff]
  exact ⟨Eq.symm, Eq.symm⟩
theorem meansNm_comm (a b : Nm) : meansNm a b = meansNm b a := by
  unfold meansNm
  rw [eqS_comm a.u, eqS_comm a.l]
theorem alikeL_comm : ∀ {l l' : List Tr}, (∀ x ∈ l, ∀ y, alikeT x y = alikeT y x) → alikeL l l' = alikeL l' l
  | [], [], _ => rfl
  | [], _ :: _, _ => rfl
  | _ :: _, [], _ => rfl
  | x :: xs, y :: ys, h => by
    rw [alikeL, alikeL, h x (by simp), alikeL_comm (fun z hz => h z (by simp [hz]))]
theorem alikeT_comm (x : Tr) : ∀ y, alikeT x y = alikeT y x := by
  induction x using Tr.ind with
  | h k n bs al t g ks ih =>
    rintro ⟨k', n', bs', al', t', g', ks'⟩
    rw [alikeT_mk, alikeT_mk, meansNm_comm, eqS_comm t, eqS_comm g, attsT_comm al, alikeL_comm ih]
    congr 5
    exact decide_eq_decide.2 ⟨Eq.symm, Eq.symm⟩
theorem alikeL_self : ∀ {l : List Tr}, (∀ x ∈ l, alikeT x x = true) → alikeL l l = true
  | [], _ => rfl
  | x :: xs, h => by
    rw [alikeL, h x (by simp), alikeL_self (fun z hz => h z (by simp [hz]))]
    rfl
theorem alikeT_self (x : Tr) : alikeT x x = true := by
  induction x using Tr.ind with
  | h k n bs al t g ks ih =>
    rw [alikeT_mk, attsT_self, alikeL_self ih]
    simp [meansNm, eqS_self]
theorem atts_same : ∀ {al bl : List Att}, sameAtts al bl = true → al.map keyA = bl.map keyA
  | [], [], _ => rfl
  | [], _ :: _, h => by cases h
  | _ :: _, [], h => by cases h
  | x :: xs, y :: ys, h => by
    rw [sameAtts, Bool.and_eq_true] at h
    have h1 := h.1
    unfold sameAtt sameNm at h1
    simp only [Bool.and_eq_true, eqS_iff] at h1
    rw [List.map_cons, List.map_cons, atts_same h.2]
    unfold keyA
    rw [h1.1.1.1.1, h1.1.1.1.2, h1.1.2]
theorem sameL_alike : ∀ {l l' : List Tr}, (∀ x ∈ l, ∀ y, sameT x y = true → alikeT x y = true) → sameL l l' = true → alikeL l l' = true
  | [], [], _, _ => rfl
  | [], _ :: _, _, h => by cases h
  | _ :: _, [], _, h => by cases h
  | x :: xs, y :: ys, hx, h => by
    rw [sameL, Bool.and_eq_true] at h
    rw [alikeL, hx x (by simp) y h.1, sameL_alike (fun z hz => hx z (by simp [hz])) h.2]
    rfl
theorem same_alike (x : Tr) : ∀ y, sameT x y = true → alikeT x y = true := by
  induction x using Tr.ind with
  | h k n bs al t g ks ih =>
    rintro ⟨k', n', bs', al', t', g', ks'⟩ h
    rw [sameT_mk] at h
    simp only [Bool.and_eq_true, decide_eq_true_iff] at h
    obtain ⟨⟨⟨⟨⟨⟨h1, h2⟩, h3⟩, h4⟩, _⟩, h6⟩, h7⟩ := h
    have h8 : attsT al al' = true := by
      rw [attsT_iff, atts_same h6]
    unfold sameNm at h2
    simp only [Bool.and_eq_true] at h2
    rw [alikeT_mk, h3, h4, h8, sameL_alike ih h7]
    simp [h1, meansNm, h2.1.1, h2.1.2]
end Go.Proofs.Ytnlncamiaddhfaa
