/- Changes among the arguments, opened. -/
import Derived.Test.YtdfipecgalnioaaOpen
import Derived.Test.YtdfipecgalnioaaSplW
namespace Go.Proofs.Ytdfipecgalnioaa
open Go.ChangeShapes Go.WideShapes Go.ChangeAt Go.RowKit Go.Joins Go.Deep

theorem flat_cells {L : List Ch} {rows : List (List Value)} (h : L.map Ch.cells = rows) : rows.flatten = L.flatMap Ch.cells := by rw [← h]; rfl
section
variable {H : Type} {enc : TypeId × Value → H} {w : World} {base : Nat} {spare : Nat → Bool} {held : Bool}
theorem open_ch {fuel : Nat} {r : List Value} {y : DataW H × List MemPlace} (h : DataW.trod enc Try.prog w base spare held fuel 49 r = some y) (hl : r.length = 3) : ∃ x : Ch, x.cells = r ∧ x.ok w := by
  obtain ⟨xs, n, _, _, _, hlen, hf⟩ := DataW.trod_struct Try.underlying49 h
  match r, hl with
  | [v0, v1, v2], _ =>
    have g0 := hf 0 _ rfl
    have g1 := hf 1 _ rfl
    have g2 := hf 2 _ rfl
    have k1 : Try.prog.cellsOf 3 = 1 := by kernel_rfl
    have k2 : Try.prog.cellsOf 34 = 1 := by kernel_rfl
    have hlen' : xs.length = 3 := by simpa using hlen
    match xs, hlen' with
    | [y0, y1, y2], _ =>
      simp only [k1, k2, List.drop_zero, List.take_succ_cons, List.take_zero, List.drop_succ_cons, List.getElem?_cons_zero, List.getElem?_cons_succ] at g0 g1 g2
      obtain ⟨a, e0, _, w0⟩ := DataW.trod_int Try.underlying3 g0
      obtain ⟨b, e1, _, w1⟩ := DataW.trod_int Try.underlying3 g1
      obtain ⟨A, m, c, zs, e2, hs, _⟩ := open_ints_cell Try.underlying34 Try.underlying5 (by kernel_rfl) g2
      injection e0 with e0
      injection e1 with e1
      injection e2 with e2
      subst e0 e1 e2
      exact ⟨⟨a, b, A, m, c, zs⟩, rfl, hs, i64_bd w0, i64_bd w1⟩
theorem open_chs_arg {r : Reach} {b0 : Nat} {v : Value} {d : DataW H} {ps : List MemPlace} (hval : Value.okWide Try.prog w r b0 22 v) (hd : DataW.Trod enc Try.prog w base spare held 22 v d ps) :
    ∃ (A : Option Addr) (n c : Nat) (L : List Ch), v = .slice A n c ∧ Sl w 3 A n c (L.flatMap Ch.cells) ∧ ∀ x ∈ L, x.ok w := by
  obtain ⟨A, n, c, rows, rfl, _, hs, hr⟩ := open_rows_arg (s := 3) Try.underlying22 (by kernel_rfl) (by omega) hd hval
  obtain ⟨L, hL, hok⟩ := exists_map (f := Ch.cells) (p := fun x => x.ok w) (rows := rows) (fun r hr' => by
    obtain ⟨h1, k, y, hy⟩ := hr r hr'
    exact open_ch hy h1)
  rw [flat_cells hL] at hs
  exact ⟨A, n, c, L, rfl, hs, hok⟩
end
end Go.Proofs.Ytdfipecgalnioaa
