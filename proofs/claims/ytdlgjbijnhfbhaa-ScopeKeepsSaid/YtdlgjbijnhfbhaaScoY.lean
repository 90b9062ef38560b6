/- Lists of bindings among the arguments, opened. -/
import Derived.Test.YtdlgjbijnhfbhaaOpen
import Derived.Test.YtdlgjbijnhfbhaaScoD
namespace Go.Proofs.Ytdlgjbijnhfbhaa
open Go.ChangeShapes Go.WideShapes Go.ChangeAt Go.RowKit Go.Joins Go.Deep

section
variable {H : Type} {enc : TypeId × Value → H} {w : World} {base : Nat} {spare : Nat → Bool} {held : Bool}
set_option maxRecDepth 100000 in
theorem open_bd {fuel : Nat} {r : List Value} {y : DataW H × List MemPlace} (h : DataW.trod enc Try.prog w base spare held fuel 46 r = some y) (hl : r.length = 2) : ∃ x : Bd, x.cells = r ∧ True := by
  obtain ⟨xs, n, _, _, _, hlen, hf⟩ := DataW.trod_struct Try.underlying46 h
  match r, hl with
  | [v0, v1], _ =>
    have g0 := hf 0 _ rfl
    have g1 := hf 1 _ rfl
    have k1 : Try.prog.cellsOf 9 = 1 := by kernel_rfl
    have hlen' : xs.length = 2 := by simpa using hlen
    match xs, hlen' with
    | [y0, y1], _ =>
      simp only [k1, List.drop_zero, List.take_succ_cons, List.take_zero, List.drop_succ_cons, List.getElem?_cons_zero, List.getElem?_cons_succ] at g0 g1
      obtain ⟨a, e0, _⟩ := DataW.trod_string Try.underlying9 g0
      obtain ⟨b, e1, _⟩ := DataW.trod_string Try.underlying9 g1
      injection e0 with e0
      injection e1 with e1
      subst e0 e1
      exact ⟨⟨a, b⟩, rfl, trivial⟩
set_option maxRecDepth 100000 in
theorem open_bds {fuel : Nat} {cs : List Value} {y : DataW H × List MemPlace} (h : DataW.trod enc Try.prog w base spare held fuel 24 cs = some y) : ∃ x : Rw, [x.cell] = cs ∧ x.ok w := by
  obtain ⟨A, n, c, rows, rfl, _, hs, hr⟩ := open_rows (s := 2) Try.underlying24 (by kernel_rfl) (by omega) h
  obtain ⟨L, hL, _⟩ := exists_map (f := Bd.cells) (p := fun _ => True) (rows := rows) (fun r hr' => by
    obtain ⟨h1, k, y, _, hy⟩ := hr r hr'
    exact open_bd hy h1)
  have hs2 : Sl w 2 A n c (L.flatMap Bd.cells) := by
    have : rows.flatten = L.flatMap Bd.cells := by rw [← hL]; rfl
    rwa [this] at hs
  exact ⟨⟨A, n, c, L⟩, rfl, hs2⟩
set_option maxRecDepth 100000 in
theorem open_rws_arg {r : Reach} {b0 : Nat} {v : Value} {d : DataW H} {ps : List MemPlace} (hval : Value.okWide Try.prog w r b0 22 v) (hd : DataW.Trod enc Try.prog w base spare held 22 v d ps) :
    ∃ (A : Option Addr) (n c : Nat) (L : List Rw), v = .slice A n c ∧ Sl w 1 A n c (L.map Rw.cell) ∧ ∀ x ∈ L, x.ok w := by
  obtain ⟨A, n, c, rows, rfl, _, hs, hr⟩ := open_rows_arg (s := 1) Try.underlying22 (by kernel_rfl) (by omega) hd hval
  obtain ⟨L, hL, hok⟩ := exists_map (f := fun x : Rw => [x.cell]) (p := fun x => x.ok w) (rows := rows) (fun r hr' => by
    obtain ⟨_, k, y, hy⟩ := hr r hr'
    exact open_bds hy)
  have e : rows.flatten = L.map Rw.cell := by
    rw [← hL]
    clear hL hok hs hr
    induction L with
    | nil => rfl
    | cons z L ih => rw [List.map_cons, List.flatten_cons, ih]; rfl
  rw [e] at hs
  exact ⟨A, n, c, L, rfl, hs, hok⟩
end
end Go.Proofs.Ytdlgjbijnhfbhaa
