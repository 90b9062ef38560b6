/- Nodes that a call makes: where their lists lie, and that they stay when a row of the call's own grows. No program in sight. -/
import Derived.Test.YtnlncamiaddhfaaInfN
namespace Go.Proofs.Ytnlncamiaddhfaa
open Go.RowKit

/-- The blocks of a node's lists that are not empty. -/
inductive Nd.out (p : Nat → Prop) : Nd → Prop
  | mk {k n bA bn bc bs aA an ac al t g kA kn kc ks} : (∀ b o, 0 < bn → bA = some ⟨b, o, none⟩ → p b) → (∀ b o, 0 < an → aA = some ⟨b, o, none⟩ → p b) → (∀ b o, 0 < kn → kA = some ⟨b, o, none⟩ → p b) → (∀ x, x ∈ ks → Nd.out p x) →
      Nd.out p (.mk k n bA bn bc bs aA an ac al t g kA kn kc ks)
theorem Nd.out.mono {p q : Nat → Prop} (hpq : ∀ b, p b → q b) {x : Nd} (h : x.out p) : x.out q := by
  induction h with
  | mk h1 h2 h3 _ ih => exact .mk (fun b o hn e => hpq b (h1 b o hn e)) (fun b o hn e => hpq b (h2 b o hn e)) (fun b o hn e => hpq b (h3 b o hn e)) ih
theorem Nd.out.parts {p : Nat → Prop} {k n bA bn bc bs aA an ac al t g kA kn kc ks} (h : Nd.out p (.mk k n bA bn bc bs aA an ac al t g kA kn kc ks)) :
    (∀ b o, 0 < bn → bA = some ⟨b, o, none⟩ → p b) ∧ (∀ b o, 0 < an → aA = some ⟨b, o, none⟩ → p b) ∧ (∀ b o, 0 < kn → kA = some ⟨b, o, none⟩ → p b) ∧ ∀ x, x ∈ ks → Nd.out p x := by
  cases h with
  | mk h1 h2 h3 h4 => exact ⟨h1, h2, h3, h4⟩
theorem Nd.ok.lt {w : World} {x : Nd} (h : x.ok w) : x.out (fun b => b < w.heap.size) := by
  induction h with
  | mk h1 h2 h3 _ ih => exact .mk (fun b o hn e => h1.lt (by omega) hn b o e) (fun b o hn e => h2.lt (by omega) hn b o e) (fun b o hn e => h3.lt (by omega) hn b o e) ih
theorem Sl.grown0 {w w' : World} {row : Option Nat} {s n c : Nat} {A : Option Addr} {xs : List Value} (h : Sl w s A n c xs) (hg : w.grownBy w' row) (hne : ∀ b o, 0 < n → A = some ⟨b, o, none⟩ → some b ≠ row) : Sl w' s A n c xs :=
  ⟨h.1, h.2.1, h.2.2.1, fun hn => by
    obtain ⟨b, o, e, hc⟩ := h.2.2.2 hn
    exact ⟨b, o, e, fun j u hu => grown_cell hg (hc j u hu) (hne b o hn e)⟩⟩
theorem Nd.ok.grown {w w' : World} {row : Option Nat} (hg : w.grownBy w' row) {x : Nd} (h : x.ok w) : x.out (fun b => some b ≠ row) → x.ok w' := by
  induction h with
  | mk h1 h2 h3 _ ih =>
    intro ho
    obtain ⟨o1, o2, o3, o4⟩ := ho.parts
    exact .mk (h1.grown0 hg o1) (h2.grown0 hg o2) (h3.grown0 hg o3) (fun x hx => ih x hx (o4 x hx))
theorem Nd.text_out (p : Nat → Prop) (t : ByteArray) : (Nd.text t).out p := .mk (by simp) (by simp) (by simp) (by simp)
theorem Nd.none_out (p : Nat → Prop) : Nd.none_.out p := .mk (by simp) (by simp) (by simp) (by simp)

theorem grown_setB9 (w : World) (g : Nat) (v0 v1 v2 v3 v4 v5 v6 v7 v8 : Value) : w.grownBy (setB9 w g v0 v1 v2 v3 v4 v5 v6 v7 v8) (some g) := by
  have h0 := grown_set1 w g 0 v0
  have h1 := h0.trans (grown_set1 _ g 1 v1)
  have h2 := h1.trans (grown_set1 _ g 2 v2)
  have h3 := h2.trans (grown_set1 _ g 3 v3)
  have h4 := h3.trans (grown_set1 _ g 4 v4)
  have h5 := h4.trans (grown_set1 _ g 5 v5)
  have h6 := h5.trans (grown_set1 _ g 6 v6)
  have h7 := h6.trans (grown_set1 _ g 7 v7)
  exact h7.trans (grown_set1 _ g 8 v8)
/-- Nodes that a row of the call's own holds: whole, and apart from the row. -/
def Own (w wr : World) (B : Nat) (v : Value) (O : List Nd) : Prop := ∀ x ∈ O, x.ok wr ∧ x.out (fun b => b < B ∨ (w.heap.size ≤ b ∧ some b ≠ v.ownBlock))
theorem Own.nil (w wr : World) (B : Nat) (v : Value) : Own w wr B v [] := by simp [Own]
theorem Own.kept {w wr w' : World} {B : Nat} {v : Value} {O : List Nd} (h : Own w wr B v O) (k : Kept wr w') : Own w w' B v O := fun x hx => ⟨(h x hx).1.kept k, (h x hx).2⟩
theorem Own.push {w wc w3 w5 : World} {B : Nat} {v v' : Value} {O : List Nd} {y : Nd} {o : Obj} (hO : Own w w3 B v O) (hB : B ≤ w.heap.size) (hy : y.ok w3) (hyo : y.out (fun b => b < B ∨ wc.heap.size ≤ b)) (hwc : w.heap.size ≤ wc.heap.size)
    (hlt : ∀ g, v.ownBlock = some g → w.heap.size ≤ g ∧ g < wc.heap.size) (hg : (w3.alloc o).grownBy w5 v.ownBlock) (hv : v'.ownBlock = v.ownBlock ∨ v'.ownBlock = some (w3.heap.size + 1)) : Own w w5 B v' (O ++ [y]) := by
  have ho : ∀ x ∈ O ++ [y], x.ok w3 ∧ x.out (fun b => b < B ∨ (w.heap.size ≤ b ∧ some b ≠ v.ownBlock)) := by
    intro x hx
    rcases List.mem_append.1 hx with hx | hx
    · exact hO x hx
    · rw [List.mem_singleton.1 hx]
      refine ⟨hy, hyo.mono fun b hb => ?_⟩
      rcases hb with hb | hb
      · exact .inl hb
      · refine .inr ⟨by omega, fun e => ?_⟩
        have := (hlt b e.symm).2
        omega
  intro x hx
  obtain ⟨h1, h2⟩ := ho x hx
  have h3 : x.out (fun b => some b ≠ v.ownBlock) := h2.mono fun b hb => by
    rcases hb with hb | hb
    · intro e
      have := (hlt b e.symm).1
      omega
    · exact hb.2
  refine ⟨(h1.kept ((Kept.refl w3).alloc o)).grown hg h3, ?_⟩
  rcases hv with hv | hv
  · rw [hv]
    exact h2
  · rw [hv]
    have hb : x.out (fun b => b < w3.heap.size ∧ (b < B ∨ (w.heap.size ≤ b ∧ some b ≠ v.ownBlock))) := by
      have h4 := h1.lt
      clear h1 h3 ho hx
      induction h2 with
      | mk a1 a2 a3 _ ih =>
        obtain ⟨b1, b2, b3, b4⟩ := h4.parts
        exact .mk (fun b o hn e => ⟨b1 b o hn e, a1 b o hn e⟩) (fun b o hn e => ⟨b2 b o hn e, a2 b o hn e⟩) (fun b o hn e => ⟨b3 b o hn e, a3 b o hn e⟩) (fun x hx => ih x hx (b4 x hx))
    refine hb.mono fun b hb => ?_
    rcases hb with ⟨hb1, hb2 | hb2⟩
    · exact .inl hb2
    · refine .inr ⟨hb2.1, fun e => ?_⟩
      injection e with e
      omega
end Go.Proofs.Ytnlncamiaddhfaa
