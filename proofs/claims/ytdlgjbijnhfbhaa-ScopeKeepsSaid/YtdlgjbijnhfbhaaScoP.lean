/- Bindings of prefixes as plain data: what is wrong with one, what a prefix means. No program in sight. -/
import Derived.Test.YtdlgjbijnhfbhaaApp
namespace Go.Proofs.Ytdlgjbijnhfbhaa

structure Bd where
  p : ByteArray
  u : ByteArray
instance : Inhabited Bd := ⟨⟨⟨#[]⟩, ⟨#[]⟩⟩⟩
def Bd.cells (x : Bd) : List Value := [.string x.p, .string x.u]
def sXML : ByteArray := ⟨#[104, 116, 116, 112, 58, 47, 47, 119, 119, 119, 46, 119, 51, 46, 111, 114, 103, 47, 88, 77, 76, 47, 49, 57, 57, 56, 47, 110, 97, 109, 101, 115, 112, 97, 99, 101]⟩
def sXMLNS : ByteArray := ⟨#[104, 116, 116, 112, 58, 47, 47, 119, 119, 119, 46, 119, 51, 46, 111, 114, 103, 47, 50, 48, 48, 48, 47, 120, 109, 108, 110, 115, 47]⟩
def sXml : ByteArray := ⟨#[120, 109, 108]⟩
def sXmlns : ByteArray := ⟨#[120, 109, 108, 110, 115]⟩
def eqS (x y : ByteArray) : Bool := x.toList == y.toList
theorem eqS_iff {x y : ByteArray} : eqS x y = true ↔ x = y := by
  unfold eqS
  rw [beq_iff_eq, ByteArray.toList_eq, ByteArray.toList_eq]
  exact ⟨fun h => ByteArray.ext (Array.toList_inj.1 h), fun h => by rw [h]⟩
theorem eqS_comm (x y : ByteArray) : eqS x y = eqS y x := by
  rw [Bool.eq_iff_iff, eqS_iff, eqS_iff]
  exact eq_comm

def root : List Bd := [⟨⟨#[]⟩, ⟨#[]⟩⟩, ⟨sXml, sXML⟩]
def lXML : List UInt8 := [104, 116, 116, 112, 58, 47, 47, 119, 119, 119, 46, 119, 51, 46, 111, 114, 103, 47, 88, 77, 76, 47, 49, 57, 57, 56, 47, 110, 97, 109, 101, 115, 112, 97, 99, 101]
def lXMLNS : List UInt8 := [104, 116, 116, 112, 58, 47, 47, 119, 119, 119, 46, 119, 51, 46, 111, 114, 103, 47, 50, 48, 48, 48, 47, 120, 109, 108, 110, 115, 47]
def lXml : List UInt8 := [120, 109, 108]
def lXmlns : List UInt8 := [120, 109, 108, 110, 115]
def eqL (x : ByteArray) (l : List UInt8) : Bool := x.toList == l
def wrongF (b : Bd) (ahead : List Bd) : Int :=
  if eqL b.p lXmlns || eqL b.u lXMLNS then 1
  else if eqL b.p lXml != eqL b.u lXML then 2
  else if !eqL b.p [] && eqL b.u [] then 3
  else if ahead.any (fun o => eqS o.p b.p) then 4 else 0
theorem wrongF_bd (b : Bd) (l : List Bd) : 0 ≤ wrongF b l ∧ wrongF b l ≤ 4 := by
  unfold wrongF
  (repeat' split) <;> omega
/-- The first that is wrong. -/
def codeF : List Bd → List Bd → Int
  | _, [] => 0
  | ahead, b :: l => if wrongF b ahead = 0 then codeF (ahead ++ [b]) l else wrongF b ahead
theorem codeF_bd : ∀ (l a : List Bd), 0 ≤ codeF a l ∧ codeF a l ≤ 4
  | [], a => by simp [codeF]
  | b :: l, a => by
    unfold codeF
    have := wrongF_bd b a
    split
    · exact codeF_bd l _
    · exact this
def findB (p : ByteArray) (l : List Bd) : Option Bd := l.find? (fun b => eqS b.p p)
/-- What a prefix means, in rows of bindings, the innermost first. -/
def findS (p : ByteArray) (ls : List (List Bd)) : Option Bd := findB p ls.flatten
def Uniq (l : List Bd) : Prop := l.Pairwise (fun x y => x.p ≠ y.p)

theorem codeF_uniq : ∀ (l a : List Bd), codeF a l = 0 → Uniq l ∧ ∀ x ∈ a, ∀ y ∈ l, x.p ≠ y.p
  | [], a, _ => ⟨List.Pairwise.nil, by simp⟩
  | b :: l, a, h => by
    unfold codeF at h
    split at h
    · rename_i hb
      obtain ⟨h1, h2⟩ := codeF_uniq l (a ++ [b]) h
      refine ⟨List.Pairwise.cons (fun y hy => h2 b (by simp) y hy) h1, fun x hx y hy => ?_⟩
      rcases List.mem_cons.1 hy with rfl | hy
      · intro e
        unfold wrongF at hb
        (repeat' split at hb) <;> first | cases hb | skip
        rename_i hn
        apply hn
        rw [List.any_eq_true]
        exact ⟨x, hx, eqS_iff.2 e⟩
      · exact h2 x (by simp [hx]) y hy
    · rename_i hb
      exact absurd h hb
theorem uniq_same : ∀ {l : List Bd}, Uniq l → ∀ {x y : Bd}, x ∈ l → y ∈ l → x.p = y.p → x = y
  | [], _, x, y, hx, _, _ => by cases hx
  | b :: l, h, x, y, hx, hy, e => by
    cases h with
    | cons h1 h2 =>
      rcases List.mem_cons.1 hx with g1 | g1
      · rcases List.mem_cons.1 hy with g2 | g2
        · rw [g1, g2]
        · rw [g1] at e
          exact absurd e (h1 y g2)
      · rcases List.mem_cons.1 hy with g2 | g2
        · rw [g2] at e
          exact absurd e.symm (h1 x g1)
        · exact uniq_same h2 g1 g2 e
theorem find_rev {p : ByteArray} {l : List Bd} (h : Uniq l) : findB p l.reverse = findB p l := by
  unfold findB
  cases h1 : l.find? (fun b => eqS b.p p) with
  | none =>
    rw [List.find?_eq_none] at h1 ⊢
    intro x hx
    exact h1 x (by simpa using hx)
  | some x =>
    cases h2 : l.reverse.find? (fun b => eqS b.p p) with
    | none =>
      rw [List.find?_eq_none] at h2
      exact absurd (List.find?_some h1) (h2 x (by simpa using List.mem_of_find?_eq_some h1))
    | some y =>
      have e1 : x.p = p := eqS_iff.1 (by simpa using List.find?_some h1)
      have e2 : y.p = p := eqS_iff.1 (by simpa using List.find?_some h2)
      rw [uniq_same h (List.mem_of_find?_eq_some h1) (by simpa using List.mem_of_find?_eq_some h2) (e1.trans e2.symm)]
theorem findB_append (p : ByteArray) (a b : List Bd) : findB p (a ++ b) = (findB p a).or (findB p b) := by
  unfold findB
  rw [List.find?_append]
/-- The outermost first, each row forwards: the last that fits, as the innermost first, each row's first. -/
theorem find_flat {p : ByteArray} : ∀ {ls : List (List Bd)}, (∀ l ∈ ls, Uniq l) → findB p (ls.reverse.flatten).reverse = findS p ls
  | [], _ => rfl
  | l :: ls, h => by
    unfold findS
    rw [List.reverse_cons, List.flatten_append, List.flatten_cons, List.flatten_nil, List.append_nil, List.reverse_append, List.flatten_cons, findB_append, findB_append, find_rev (h l (by simp)), find_flat (fun l hl => h l (by simp [hl]))]
    rfl
theorem root_uniq : Uniq root := by
  unfold Uniq root
  refine List.Pairwise.cons ?_ (List.Pairwise.cons (by simp) List.Pairwise.nil)
  intro y hy
  simp at hy
  subst hy
  intro e
  have := congrArg ByteArray.size e
  simp [sXml, ByteArray.size] at this
end Go.Proofs.Ytdlgjbijnhfbhaa
