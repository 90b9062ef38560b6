/- The library's swapRange at diags: walked. -/
import Derived.Test.YtdcigdkeakiknaaSpsA
import Derived.Test.YtdcigdkeakiknaaBlk
namespace Go.Proofs.Ytdcigdkeakiknaa
open Go.RowKit
attribute [local go_sem ↓] Go.wp_at_zero Go.wp_at_succ

theorem ex_named {Q : Exit → Act → World → Prop} {ex : Exit} {a : Act} {w : World} (h : ∀ w', w' = w → Q ex a w') : Q ex a w := h w rfl
structure Dg where
  f : Int
  t : Int
  k : Int
def Dg.cells (x : Dg) : List Value := [.int .i64 x.f, .int .i64 x.t, .int .i64 x.k]
/-- The row that is being sorted: in block g, n of it. -/
def Row (B g n c : Nat) (w : World) (d : List Dg) : Prop := w.ownsRow B 52 3 (.slice (some ⟨g, 0, none⟩) n c) n (d.flatMap Dg.cells)
section
variable {B g n c : Nat} {w w' : World} {d : List Dg}
theorem Row.sl (h : Row B g n c w d) : Sl w 3 (some ⟨g, 0, none⟩) n c (d.flatMap Dg.cells) := by
  obtain ⟨A', c', e, hs⟩ := Sl.of_own h
  injection e with e1 e2 e3
  subst e1 e3
  exact hs
theorem Row.len (h : Row B g n c w d) : d.length = n := h.sl.llen (enc := Dg.cells) (fun _ => rfl) (by omega)
theorem Row.get (h : Row B g n c w d) {k : Nat} {x : Dg} (hx : d[k]? = some x) : w.cell? ⟨g, k * 3, none⟩ = some (.int .i64 x.f) ∧ w.cell? ⟨g, k * 3 + 1, none⟩ = some (.int .i64 x.t) ∧ w.cell? ⟨g, k * 3 + 2, none⟩ = some (.int .i64 x.k) := by
  have hk : k < n := by rw [← h.len]; exact (List.getElem?_eq_some_iff.1 hx).1
  obtain ⟨b, o, y, e, hy, hc⟩ := h.sl.elem (enc := Dg.cells) (fun _ => rfl) (by omega) hk
  injection e with e
  injection e with e1 e2
  subst e1 e2
  rw [hx] at hy
  obtain rfl := Option.some.inj hy
  have h0 := hc 0 _ rfl
  have h1 := hc 1 _ rfl
  have h2 := hc 2 _ rfl
  simp only [Nat.zero_add, Nat.add_zero] at h0 h1 h2
  exact ⟨h0, h1, h2⟩
theorem Row.lt (h : Row B g n c w d) : g < w.heap.size ∧ B ≤ g := by
  have := World.ownsRow.lt h g rfl
  exact ⟨this.2, this.1⟩
theorem Row.frozen (h : Row B g n c w d) (j : Nat) : w.frozen? ⟨g, j, none⟩ = false := World.ownsRow.frozenAt h j
theorem Row.drew (h : Row B g n c w d) : Row B g n c w.drew d := World.ownsRow.drew h
theorem grown_drew {row : Option Nat} (h : w.grownBy w' row) : w.grownBy w'.drew row := h.trans ⟨rfl, rfl, rfl, Nat.le_refl _, fun _ _ _ => rfl⟩
/-- One element written. -/
def set3 (w : World) (g k : Nat) (x : Dg) : World := ((w.setCell ⟨g, k * 3, none⟩ (.int .i64 x.f)).setCell ⟨g, k * 3 + 1, none⟩ (.int .i64 x.t)).setCell ⟨g, k * 3 + 2, none⟩ (.int .i64 x.k)
theorem flat_set (x : Dg) : ∀ (d : List Dg) (k : Nat), k < d.length → (((d.flatMap Dg.cells).set (k * 3) (.int .i64 x.f)).set (k * 3 + 1) (.int .i64 x.t)).set (k * 3 + 2) (.int .i64 x.k) = (d.set k x).flatMap Dg.cells
  | [], k, h => absurd h (by simp)
  | y :: d, 0, _ => rfl
  | y :: d, k + 1, h => by
    have ih := flat_set x d k (by simpa using h)
    rw [List.flatMap_cons, List.set_cons_succ, List.flatMap_cons, ← ih]
    have e : ∀ (l : List Value) (j : Nat) (v : Value), (y.cells ++ l).set (3 + j) v = y.cells ++ l.set j v := fun l j v => by
      rw [List.set_append_right _ _ (by show 3 ≤ 3 + j; omega)]
      congr 2
      show 3 + j - 3 = j
      omega
    rw [show (k + 1) * 3 = 3 + k * 3 by omega, e, show 3 + k * 3 + 1 = 3 + (k * 3 + 1) by omega, e, show 3 + k * 3 + 2 = 3 + (k * 3 + 2) by omega, e]
theorem Row.set (h : Row B g n c w d) {k : Nat} (hk : k < n) (x : Dg) : Row B g n c (set3 w g k x) (d.set k x) ∧ w.grownBy (set3 w g k x) (some g) := by
  have hl := h.len
  have h0 := World.ownsRow.stored h (k * 3) (.int .i64 x.f)
  have h1 := World.ownsRow.stored h0.1 (k * 3 + 1) (.int .i64 x.t)
  have h2 := World.ownsRow.stored h1.1 (k * 3 + 2) (.int .i64 x.k)
  refine ⟨?_, ?_⟩
  · have := h2.1
    rw [flat_set x d k (by omega)] at this
    exact this
  · have a := h0.2
    have b := h1.2
    have e := h2.2
    exact (a.trans b).trans e
end
/-- The row, i of two stretches at a and b swapped. -/
def SwAt (d : List Dg) (a b i : Nat) (d' : List Dg) : Prop := d'.length = d.length ∧ ∀ k, d'[k]? = if a ≤ k ∧ k < a + i then d[k - a + b]? else if b ≤ k ∧ k < b + i then d[k - b + a]? else d[k]?
theorem SwAt.zero (d : List Dg) (a b : Nat) : SwAt d a b 0 d := ⟨rfl, fun k => by rw [if_neg (by omega), if_neg (by omega)]⟩
theorem SwAt.step {d d' : List Dg} {a b i : Nat} {x y : Dg} (h : SwAt d a b i d') (hab : a + i + 1 ≤ b) (hb : b + i < d.length) (hx : d'[a + i]? = some x) (hy : d'[b + i]? = some y) : SwAt d a b (i + 1) ((d'.set (a + i) y).set (b + i) x) := by
  have ex : d[a + i]? = some x := by rw [← hx, h.2, if_neg (by omega), if_neg (by omega)]
  have ey : d[b + i]? = some y := by rw [← hy, h.2, if_neg (by omega), if_neg (by omega)]
  refine ⟨by rw [List.length_set, List.length_set, h.1], fun k => ?_⟩
  rw [List.getElem?_set, List.getElem?_set]
  by_cases hkb : b + i = k
  · subst hkb
    rw [if_pos rfl, if_pos (by rw [List.length_set, h.1]; exact hb), if_neg (by omega), if_pos (by omega), show b + i - b + a = a + i by omega, ex]
  · rw [if_neg hkb]
    by_cases hka : a + i = k
    · subst hka
      rw [if_pos rfl, if_pos (by rw [h.1]; omega), if_pos (by omega), show a + i - a + b = b + i by omega, ey]
    · rw [if_neg hka, h.2]
      by_cases h1 : a ≤ k ∧ k < a + i
      · rw [if_pos h1, if_pos (by omega)]
      · rw [if_neg h1, if_neg (show ¬ (a ≤ k ∧ k < a + (i + 1)) by omega)]
        by_cases h2 : b ≤ k ∧ k < b + i
        · rw [if_pos h2, if_pos (by omega)]
        · rw [if_neg h2, if_neg (by omega)]
theorem SwAt.done {X P M Q Y d' : List Dg} {a b i : Nat} (ha : X.length = a) (hP : P.length = i) (hQ : Q.length = i) (hb : a + i + M.length = b) (h : SwAt (X ++ P ++ M ++ Q ++ Y) a b i d') : d' = X ++ Q ++ M ++ P ++ Y := by
  apply List.ext_getElem?
  intro k
  rw [h.2]
  have g1 : ∀ (L : List Dg) (R : List Dg) (k : Nat), k < L.length → (L ++ R)[k]? = L[k]? := fun L R k hk => List.getElem?_append_left hk
  have g2 : ∀ (L : List Dg) (R : List Dg) (k j : Nat), k = L.length + j → (L ++ R)[k]? = R[j]? := fun L R k j hk => by
    rw [hk, List.getElem?_append_right (Nat.le_add_right _ _), Nat.add_sub_cancel_left]
  by_cases c1 : k < a
  · rw [if_neg (by omega), if_neg (by omega)]
    simp only [List.append_assoc]
    rw [g1 X _ k (by omega), g1 X _ k (by omega)]
  by_cases c2 : k < a + i
  · obtain ⟨j, rfl⟩ : ∃ j, k = a + j := ⟨k - a, by omega⟩
    rw [if_pos (by omega), g1 _ Y _ (by simp; omega), g2 (X ++ P ++ M) Q _ j (by simp; omega)]
    rw [g1 _ Y _ (by simp; omega), g1 _ P _ (by simp; omega), g1 _ M _ (by simp; omega), g2 X Q _ j (by omega)]
  by_cases c3 : k < b
  · obtain ⟨j, rfl⟩ : ∃ j, k = a + i + j := ⟨k - a - i, by omega⟩
    rw [if_neg (by omega), if_neg (by omega)]
    rw [g1 _ Y _ (by simp; omega), g1 _ Q _ (by simp; omega), g2 (X ++ P) M _ j (by simp; omega)]
    rw [g1 _ Y _ (by simp; omega), g1 _ P _ (by simp; omega), g2 (X ++ Q) M _ j (by simp; omega)]
  by_cases c4 : k < b + i
  · obtain ⟨j, rfl⟩ : ∃ j, k = b + j := ⟨k - b, by omega⟩
    rw [if_neg (by omega), if_pos (by omega), g1 _ Y _ (by simp; omega), g1 _ Q _ (by simp; omega), g1 _ M _ (by simp; omega), g2 X P _ j (by omega)]
    rw [g1 _ Y _ (by simp; omega), g2 (X ++ Q ++ M) P _ j (by simp; omega)]
  · obtain ⟨j, rfl⟩ : ∃ j, k = b + i + j := ⟨k - b - i, by omega⟩
    rw [if_neg (by omega), if_neg (by omega), g2 (X ++ P ++ M ++ Q) Y _ j (by simp; omega), g2 (X ++ Q ++ M ++ P) Y _ j (by simp; omega)]
set_option maxHeartbeats 4000000 in
theorem swapRange_any (B g n c : Nat) (F : Value) (d : List Dg) (a b m : Nat) (w : World) (h : Row B g n c w d) (hab : a + m ≤ b) (hb : b + m ≤ n) (hn : n ≤ 1000) :
    Calls Try.prog 35 #[.slice (some ⟨g, 0, none⟩) n c, .int .i64 (a : Int), .int .i64 (b : Int), .int .i64 (m : Int), F] w fun e w' => e = .returned (.tuple #[]) ∧ w.grownBy w' (some g) ∧ ∃ d', Row B g n c w' d' ∧ SwAt d a b m d' := by
  have hcap := h.sl.cap
  have hmax := h.sl.max
  have hdl := h.len
  go_enter Try.func35, Try.ntmps35
  go_wp2_with fail
  go_loopw [10] (fun i wr => ∃ (j : Nat) (d' : List Dg), j ≤ m ∧ i = .int .i64 j ∧ w.grownBy wr (some g) ∧ Row B g n c wr d' ∧ SwAt d a b j d') (fun i _ => m - (intOf i).toNat)
  case atStart => exact ⟨0, d, Nat.zero_le _, rfl, World.grownBy.refl _ _, h, SwAt.zero d a b⟩
  case round =>
    obtain ⟨j, d', hj, rfl, hg, hr, hs⟩ := hrel
    by_cases hlt : j < m
    · have hl := hr.len
      obtain ⟨x, hx⟩ : ∃ x, d'[a + j]? = some x := ⟨d'[a + j]'(by omega), List.getElem?_eq_getElem _⟩
      obtain ⟨y, hy⟩ : ∃ y, d'[b + j]? = some y := ⟨d'[b + j]'(by omega), List.getElem?_eq_getElem _⟩
      obtain ⟨x0, x1, x2⟩ := hr.get hx
      obtain ⟨y0, y1, y2⟩ := hr.get hy
      have HS := Lib.hid (hs.step (by omega) (by omega) hx hy)
      have s1 : IntKind.i64.wrap ((a : Int) + j) = ((a + j : Nat) : Int) := by rw [← Int.natCast_add]; exact IntWalk.i64_in _ (by omega)
      have s2 : IntKind.i64.wrap ((b : Int) + j) = ((b + j : Nat) : Int) := by rw [← Int.natCast_add]; exact IntWalk.i64_in _ (by omega)
      have l1 : a + j < n := by omega
      have l2 : b + j < n := by omega
      obtain ⟨p, hp⟩ : ∃ p, a + j = p := ⟨_, rfl⟩
      obtain ⟨q, hq⟩ : ∃ q, b + j = q := ⟨_, rfl⟩
      have hpq : p < q := by omega
      have fr := hr.frozen
      have gl := hr.lt.1
      have lj : (j : Int) < m := by omega
      rw [hp] at x0 x1 x2 s1 l1 HS
      rw [hq] at y0 y1 y2 s2 l2 HS
      clear hx hy hs hp hq
      go_upto_region 3 with fail
      go_region
      obtain ⟨r1, g1⟩ := hr.set l1 y
      obtain ⟨r2, g2⟩ := r1.set l2 x
      have hg2 := (hg.trans g1).trans g2
      refine ex_named ?_
      intro w5 hw5
      have e5 : w5 = (set3 (set3 wr g p y) g q x).drew := hw5
      have r5 : Row B g n c w5 ((d'.set p y).set q x) := by rw [e5]; exact r2.drew
      have g5 : w.grownBy w5 (some g) := by rw [e5]; exact grown_drew hg2
      clear hw5 e5
      clear r1 r2 g1 g2 hg2 x0 x1 x2 y0 y1 y2 fr hg hr
      go_wp2_with fail
      go_roundw
      case rel => exact ⟨j + 1, _, hlt, by go_num, g5, r5, HS.out⟩
      case measure =>
        simp [intOf]
        omega
    · obtain rfl : j = m := by omega
      go_wp2_with fail
      go_end0
      exact ⟨rfl, hg, d', hr, hs⟩
end Go.Proofs.Ytdcigdkeakiknaa
