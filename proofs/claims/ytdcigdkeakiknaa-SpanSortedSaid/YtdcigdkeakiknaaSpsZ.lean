/- Diags among the arguments, opened. -/
import Derived.Test.YtdcigdkeakiknaaOpen
import Derived.Test.YtdcigdkeakiknaaSpsB
namespace Go.Proofs.Ytdcigdkeakiknaa
open Go.ChangeShapes Go.WideShapes Go.ChangeAt Go.RowKit Go.Joins Go.Deep

theorem flat_dgs {L : List Dg} {rows : List (List Value)} (h : L.map Dg.cells = rows) : rows.flatten = L.flatMap Dg.cells := by rw [← h]; rfl
section
variable {H : Type} {enc : TypeId × Value → H} {w : World} {base : Nat} {spare : Nat → Bool} {held : Bool}
theorem open_sp {fuel : Nat} {r : List Value} {y : DataW H × List MemPlace} (h : DataW.trod enc Try.prog w base spare held fuel 31 r = some y) (hl : r.length = 2) : ∃ a b : Int, [.int .i64 a, .int .i64 b] = r := by
  obtain ⟨xs, n, _, _, _, hlen, hf⟩ := DataW.trod_struct Try.underlying31 h
  match r, hl with
  | [v0, v1], _ =>
    have g0 := hf 0 _ rfl
    have g1 := hf 1 _ rfl
    have k1 : Try.prog.cellsOf 3 = 1 := by kernel_rfl
    have hlen' : xs.length = 2 := by simpa using hlen
    match xs, hlen' with
    | [y0, y1], _ =>
      simp only [List.getElem?_cons_zero, List.getElem?_cons_succ] at g0 g1
      obtain ⟨a, e0, _, w0⟩ := DataW.trod_int Try.underlying3 g0
      obtain ⟨b, e1, _, w1⟩ := DataW.trod_int Try.underlying3 g1
      injection e0 with e0
      injection e1 with e1
      subst e0 e1
      exact ⟨a, b, rfl⟩
theorem open_dg {fuel : Nat} {r : List Value} {y : DataW H × List MemPlace} (h : DataW.trod enc Try.prog w base spare held fuel 50 r = some y) (hl : r.length = 3) : ∃ x : Dg, x.cells = r ∧ True := by
  obtain ⟨xs, n, _, _, _, hlen, hf⟩ := DataW.trod_struct Try.underlying50 h
  match r, hl with
  | [v0, v1, v2], _ =>
    have g0 := hf 0 _ rfl
    have g1 := hf 1 _ rfl
    have k1 : Try.prog.cellsOf 3 = 1 := by kernel_rfl
    have k2 : Try.prog.cellsOf 31 = 2 := by kernel_rfl
    have hlen' : xs.length = 2 := by simpa using hlen
    match xs, hlen' with
    | [y0, y1], _ =>
      simp only [List.getElem?_cons_zero, List.getElem?_cons_succ] at g0 g1
      obtain ⟨a, b, e0⟩ := open_sp g0 rfl
      obtain ⟨k, e1, _, w1⟩ := DataW.trod_int Try.underlying3 g1
      injection e0 with e0 e2
      injection e2 with e2
      injection e1 with e1
      subst e0 e1 e2
      exact ⟨⟨a, b, k⟩, rfl, trivial⟩
theorem open_dgs_arg {r : Reach} {b0 : Nat} {v : Value} {d : DataW H} {ps : List MemPlace} (hval : Value.okWide Try.prog w r b0 47 v) (hd : DataW.Trod enc Try.prog w base spare held 47 v d ps) :
    ∃ (A : Option Addr) (n c : Nat) (L : List Dg), v = .slice A n c ∧ Sl w 3 A n c (L.flatMap Dg.cells) := by
  obtain ⟨A, n, c, rows, rfl, _, hs, hr⟩ := open_rows_arg (s := 3) Try.underlying47 (by kernel_rfl) (by omega) hd hval
  obtain ⟨L, hL, hok⟩ := exists_map (f := Dg.cells) (p := fun _ => True) (rows := rows) (fun r hr' => by
    obtain ⟨h1, k, y, hy⟩ := hr r hr'
    exact open_dg hy h1)
  rw [flat_dgs hL] at hs
  exact ⟨A, n, c, L, rfl, hs⟩
end
end Go.Proofs.Ytdcigdkeakiknaa
