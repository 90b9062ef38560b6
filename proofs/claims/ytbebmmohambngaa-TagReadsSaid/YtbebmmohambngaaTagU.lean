/- The reader of parts of layer 8: what its calls leave. -/
import Derived.Test.YtbebmmohambngaaTagT
namespace Go.Proofs.Ytbebmmohambngaa
open Go.RowKit

/-- Only block g, and what is new, has turned. -/
def Only (g : Nat) (w w' : World) : Prop := w.grownBy w' (some g)
section
variable {g : Nat} {a w w' : World}
theorem Only.refl (g : Nat) (w : World) : Only g w w := ⟨rfl, rfl, rfl, Nat.le_refl _, fun _ _ _ => rfl⟩
theorem Only.size (h : Only g w w') : w.heap.size ≤ w'.heap.size := World.grownBy.size h
theorem Only.block (h : Only g w w') : ∀ k, k < w.heap.size → some k ≠ some g → w'.heap[k]? = w.heap[k]? := World.grownBy.block h
theorem Only.trans (h : Only g a w) (k : Only g w w') : Only g a w' := by
  obtain ⟨h1, h2, h3, h4, h5⟩ := (show a.grownBy w (some g) from h)
  obtain ⟨k1, k2, k3, k4, k5⟩ := (show w.grownBy w' (some g) from k)
  exact ⟨k1.trans h1, k2.trans h2, k3.trans h3, Nat.le_trans h4 k4, fun i hi hne => (k5 i (Nat.lt_of_lt_of_le hi h4) hne).trans (h5 i hi hne)⟩
theorem Only.drewN (h : Only g a w) (n : Nat) : Only g a (w.drewN n) := by
  obtain ⟨h1, h2, h3, h4, h5⟩ := (show a.grownBy w (some g) from h)
  exact ⟨h1, h2, h3, h4, h5⟩
theorem Only.alloc (h : Only g a w) (o : Obj) : Only g a (w.alloc o) := by
  obtain ⟨h1, h2, h3, h4, h5⟩ := (show a.grownBy w (some g) from h)
  exact ⟨h1, h2, h3, Nat.le_trans h4 (by simp), fun i hi hne => (Below.heap_alloc w o i (Nat.lt_of_lt_of_le hi h4)).trans (h5 i hi hne)⟩
theorem Only.set (h : Only g a w) (i : Nat) (u : Value) : Only g a (w.setCell ⟨g, i, none⟩ u) := by
  obtain ⟨h1, h2, h3, h4, h5⟩ := (show a.grownBy w (some g) from h)
  exact ⟨h1, h2, h3, by simpa [World.setCell] using h4, fun k hk hne => (Below.heap_setCell w ⟨g, i, none⟩ u k (fun e => hne (congrArg some e))).trans (h5 k hk hne)⟩
theorem Only.new (h : Only g a w) {p : Addr} (hp : a.heap.size ≤ p.block) (u : Value) : Only g a (w.setCell p u) := by
  obtain ⟨h1, h2, h3, h4, h5⟩ := (show a.grownBy w (some g) from h)
  exact ⟨h1, h2, h3, by simpa [World.setCell] using h4, fun k hk hne => (Below.heap_setCell w p u k (by omega)).trans (h5 k hk hne)⟩
theorem Only.drew (h : Only g a w) : Only g a w.drew := h.drewN 1
theorem Only.cell (h : Only g w w') {b o : Nat} {v : Value} (hc : w.cell? ⟨b, o, none⟩ = some v) (hb : b ≠ g) : w'.cell? ⟨b, o, none⟩ = some v :=
  World.grownBy.cell h hc (fun e => hb (by injection e))
theorem Only.kept (h : Only g w w') (hk : Kept a w) (hg : a.heap.size ≤ g) : Kept a w' := hk.grown h (fun k hk' => by injection hk' with e; omega)
theorem Only.of_kept (h : Kept w w') : Only g w w' := by
  obtain ⟨h1, h2, h3, h4, h5⟩ := (show Below w.heap.size w w' from h)
  exact ⟨h1, h2, h3, h4, fun i hi _ => h5 i hi⟩
/-- What the walk wants to know behind a call that turned block g alone. -/
theorem Only.old (h : Only g w w') : (∀ b o, b < w.heap.size → b ≠ g → w'.cell? ⟨b, o, none⟩ = w.cell? ⟨b, o, none⟩) ∧ (∀ b o, b < w.heap.size → b ≠ g → w'.frozen? ⟨b, o, none⟩ = w.frozen? ⟨b, o, none⟩) ∧ w.heap.size ≤ w'.heap.size :=
  ⟨fun b o hb hne => World.cell?_of_block (a := ⟨b, o, none⟩) (h.block b hb (fun e => hne (by injection e))), fun b o hb hne => World.frozen?_of_block (a := ⟨b, o, none⟩) (h.block b hb (fun e => hne (by injection e))), h.size⟩
theorem Sl.only {s n c : Nat} {A : Option Addr} {xs : List Value} (h : Sl w s A n c xs) (k : Only g w w') (hne : 0 < n → ∀ b o, A = some ⟨b, o, none⟩ → b ≠ g) : Sl w' s A n c xs :=
  ⟨h.1, h.2.1, h.2.2.1, fun hn => by
    obtain ⟨b, o, e, hc⟩ := h.2.2.2 hn
    exact ⟨b, o, e, fun j u hu => k.cell (hc j u hu) (hne hn b o e)⟩⟩
theorem setCell_self {w : World} {p : Addr} {v : Value} (h : w.cell? p = some v) : w.setCell p v = w.setCell p v := rfl
end

/-- A reader of parts: block g. -/
structure RD (w : World) (g : Nat) (A : Option Addr) (n c : Nat) (P : List Prt) (j : Nat) : Prop where
  c0 : w.cell? ⟨g, 0, none⟩ = some (.slice A n c)
  c1 : w.cell? ⟨g, 1, none⟩ = some (.int .i64 j)
  fr : w.frozen? ⟨g, 1, none⟩ = false
  sl : Sl w 3 A n c (P.flatMap prtC)
  lo : 0 < n → ∀ b o, A = some ⟨b, o, none⟩ → b < g
  le : j ≤ n
  small : n ≤ 1000000

section
variable {w w' : World} {g : Nat} {A : Option Addr} {n c : Nat} {P : List Prt} {j : Nat}
theorem RD.drewN (h : RD w g A n c P j) (q : Nat) : RD (w.drewN q) g A n c P j := ⟨h.c0, h.c1, h.fr, h.sl, h.lo, h.le, h.small⟩
theorem RD.kept (h : RD w g A n c P j) (k : Kept w w') : RD w' g A n c P j :=
  ⟨k.cell h.c0, k.cell h.c1, (k.frozen h.c1).trans h.fr, h.sl.kept k, h.lo, h.le, h.small⟩
theorem RD.set (h : RD w g A n c P j) {i : Nat} (hi : i ≤ n) : RD (w.setCell ⟨g, 1, none⟩ (.int .i64 i)) g A n c P i :=
  ⟨by rw [World.cell?_setCell_other w ⟨g, 1, none⟩ ⟨g, 0, none⟩ _ (by simp)]; exact h.c0, World.cell?_setCell_same' w _ _ (by rw [h.c1]; rfl), by have := h.fr; simpa [go_sem] using this, h.sl.only ((Only.refl g w).set 1 _) (fun hn b o e => Nat.ne_of_lt (h.lo hn b o e)), h.lo, hi, h.small⟩
theorem RD.lt (h : RD w g A n c P j) : g < w.heap.size := World.block_lt_of_cell? _ _ h.c0
theorem RD.far (h : RD w g A n c P j) {p : Addr} (hp : g < p.block) (u : Value) : RD (w.setCell p u) g A n c P j :=
  ⟨(World.cell?_setCell_other w p ⟨g, 0, none⟩ u (fun e => by subst e; exact Nat.lt_irrefl _ hp)).trans h.c0, (World.cell?_setCell_other w p ⟨g, 1, none⟩ u (fun e => by subst e; exact Nat.lt_irrefl _ hp)).trans h.c1,
   (World.frozen?_of_block (a := ⟨g, 1, none⟩) (Below.heap_setCell w p u g (by omega))).trans h.fr, ⟨h.sl.1, h.sl.2.1, h.sl.2.2.1, fun hn => by
      obtain ⟨b, o, e, hc⟩ := h.sl.2.2.2 hn
      have := h.lo hn b o e
      exact ⟨b, o, e, fun j u' hu => (World.cell?_setCell_other w p ⟨b, o + j, none⟩ u (fun e => by subst e; exact absurd hp (by simp; omega))).trans (hc j u' hu)⟩⟩, h.lo, h.le, h.small⟩
theorem RD.apart (h : RD w g A n c P j) {p : Addr} (hp : g ≠ p.block) (ha : 0 < n → ∀ b o, A = some ⟨b, o, none⟩ → b ≠ p.block) (u : Value) : RD (w.setCell p u) g A n c P j :=
  ⟨(World.cell?_setCell_other w p ⟨g, 0, none⟩ u (fun e => by subst e; exact hp rfl)).trans h.c0, (World.cell?_setCell_other w p ⟨g, 1, none⟩ u (fun e => by subst e; exact hp rfl)).trans h.c1,
   (World.frozen?_of_block (a := ⟨g, 1, none⟩) (Below.heap_setCell w p u g hp)).trans h.fr, ⟨h.sl.1, h.sl.2.1, h.sl.2.2.1, fun hn => by
      obtain ⟨b, o, e, hc⟩ := h.sl.2.2.2 hn
      have := ha hn b o e
      exact ⟨b, o, e, fun j u' hu => (World.cell?_setCell_other w p ⟨b, o + j, none⟩ u (fun e => by subst e; exact this rfl)).trans (hc j u' hu)⟩⟩, h.lo, h.le, h.small⟩
theorem RD.drew (h : RD w g A n c P j) : RD w.drew g A n c P j := h.drewN 1
theorem takesR_yesA (h : RD w g A n c P j) (B : Option Addr) (m d : Nat) (ks : List Int) (hK : Sl w 1 B m d (ks.map (Value.int .i64))) (hm : 0 < m) (ht : takeF ks (P.drop j) = true) :
    Calls Try.prog 15 #[.pointer (some ⟨g, 0, none⟩), .slice B m d] w fun e w' => ∃ b o c', e = .returned (.slice (some ⟨b, o, none⟩) m c') ∧
      Sl w' 3 (some ⟨b, o, none⟩) m c' (((P.drop j).take m).flatMap prtC) ∧ b < g ∧ RD w' g A n c P (j + m) ∧ Only g w w' ∧ ∃ o', A = some ⟨b, o', none⟩ := by
  refine (takes_yes g A n c P j B m d ks w h.c0 h.c1 h.fr h.sl hK hm h.le h.small ht).mono ?_
  rintro e w' ⟨b, o, q, rfl, ⟨o', hA⟩, hs, rfl⟩
  have hjm : j + m ≤ n := by
    have hlk := hK.llen1
    have hlp := h.sl.llen (s := 3) (fun _ => rfl) (by omega)
    rcases Nat.lt_or_ge n (j + m) with hlt | hge
    · rw [takeF_short (by rw [List.length_drop]; omega)] at ht
      cases ht
    · exact hge
  have hO : Only g w ((w.drewN q).setCell ⟨g, 1, none⟩ (.int .i64 (j + m))) := ((Only.refl g w).drewN q).set 1 _
  have hbg : b < g := h.lo (by omega) b o' hA
  exact ⟨b, o, c - j, rfl, hs.only hO (fun _ b1 o1 e => by injection e with e; injection e with e1 e2; omega), hbg, by have := (h.drewN q).set hjm; simpa using this, hO, o', hA⟩
theorem takesR_yes (h : RD w g A n c P j) (B : Option Addr) (m d : Nat) (ks : List Int) (hK : Sl w 1 B m d (ks.map (Value.int .i64))) (hm : 0 < m) (ht : takeF ks (P.drop j) = true) :
    Calls Try.prog 15 #[.pointer (some ⟨g, 0, none⟩), .slice B m d] w fun e w' => ∃ b o c', e = .returned (.slice (some ⟨b, o, none⟩) m c') ∧
      Sl w' 3 (some ⟨b, o, none⟩) m c' (((P.drop j).take m).flatMap prtC) ∧ b < g ∧ RD w' g A n c P (j + m) ∧ Only g w w' := by
  refine (takesR_yesA h B m d ks hK hm ht).mono ?_
  rintro e w' ⟨b, o, c', h1, h2, h3, h4, h5, _⟩
  exact ⟨b, o, c', h1, h2, h3, h4, h5⟩
theorem takesR_no (h : RD w g A n c P j) (B : Option Addr) (m d : Nat) (ks : List Int) (hK : Sl w 1 B m d (ks.map (Value.int .i64))) (ht : takeF ks (P.drop j) = false) :
    Calls Try.prog 15 #[.pointer (some ⟨g, 0, none⟩), .slice B m d] w fun e w' => e = .returned (.slice none 0 0) ∧ RD w' g A n c P j ∧ Only g w w' := by
  refine (takes_no g A n c P j B m d ks w h.c0 h.c1 h.sl hK h.le h.small ht).mono ?_
  rintro e w' ⟨rfl, q, rfl⟩
  exact ⟨rfl, h.drewN q, (Only.refl g w).drewN q⟩
/-- Behind a Space, if there is one. -/
def skipN (p : List Prt) : Nat := if takeF [3] p then 1 else 0
theorem takesR_skip (h : RD w g A n c P j) (B : Option Addr) (d : Nat) (hK : Sl w 1 B 1 d ([3].map (Value.int .i64))) :
    Calls Try.prog 15 #[.pointer (some ⟨g, 0, none⟩), .slice B 1 d] w fun e w' => ∃ v, e = .returned v ∧ RD w' g A n c P (j + skipN (P.drop j)) ∧ Only g w w' := by
  cases ht : takeF [3] (P.drop j)
  · refine (takesR_no h B 1 d [3] hK ht).mono ?_
    rintro e w' ⟨rfl, h1, h2⟩
    exact ⟨_, rfl, by unfold skipN; rw [ht]; exact h1, h2⟩
  · refine (takesR_yes h B 1 d [3] hK (by omega) ht).mono ?_
    rintro e w' ⟨b, o, c', rfl, _, _, h1, h2⟩
    exact ⟨_, rfl, by unfold skipN; rw [ht]; exact h1, h2⟩
theorem takesR_weak (h : RD w g A n c P j) (B : Option Addr) (m d : Nat) (ks : List Int) (hK : Sl w 1 B m d (ks.map (Value.int .i64))) (hm : 0 < m) :
    Calls Try.prog 15 #[.pointer (some ⟨g, 0, none⟩), .slice B m d] w fun e w' => ∃ v i, e = .returned v ∧ RD w' g A n c P i ∧ Only g w w' := by
  cases ht : takeF ks (P.drop j)
  · refine (takesR_no h B m d ks hK ht).mono ?_
    rintro e w' ⟨rfl, h1, h2⟩
    exact ⟨_, _, rfl, h1, h2⟩
  · refine (takesR_yes h B m d ks hK hm ht).mono ?_
    rintro e w' ⟨b, o, c', rfl, _, _, h1, h2⟩
    exact ⟨_, _, rfl, h1, h2⟩

structure Atr where
  name : Prt
  value : Prt
  all : Prt
def atrC (a : Atr) : List Value := prtC a.name ++ prtC a.value ++ prtC a.all
def eqAt (P : List Prt) (j : Nat) : Nat := j + 1 + 1 + skipN (P.drop (j + 1 + 1))
def valAt (P : List Prt) (j : Nat) : Nat := eqAt P j + 1 + skipN (P.drop (eqAt P j + 1))
/-- The attribute that begins at part number j, and the number of the part behind it. -/
def attrF (P : List Prt) (j : Nat) : Option (Atr × Nat) :=
  if takeF [3] (P.drop j) && takeF [2] (P.drop (j + 1)) then
    if takeF [4] (P.drop (eqAt P j)) && takeF [5] (P.drop (valAt P j)) then
      match P[j]?, P[j + 1]?, P[valAt P j]? with
      | some a, some b, some v => some (⟨b, v, ⟨7, a.f, v.t⟩⟩, valAt P j + 1)
      | _, _, _ => none
    else none
  else none
end
end Go.Proofs.Ytbebmmohambngaa
