/- A list of bindings among the arguments, opened. -/
import Derived.Test.YtdlgjbijnhfbhaaScoY
namespace Go.Proofs.Ytdlgjbijnhfbhaa
open Go.ChangeShapes Go.WideShapes Go.ChangeAt Go.RowKit Go.Joins Go.Deep

section
variable {H : Type} {enc : TypeId × Value → H} {w : World} {base : Nat} {spare : Nat → Bool} {held : Bool}
set_option maxRecDepth 100000 in
theorem open_bds_arg {r : Reach} {b0 : Nat} {v : Value} {d : DataW H} {ps : List MemPlace} (hval : Value.okWide Try.prog w r b0 24 v) (hd : DataW.Trod enc Try.prog w base spare held 24 v d ps) :
    ∃ (A : Option Addr) (n c : Nat) (L : List Bd), v = .slice A n c ∧ Sl w 2 A n c (L.flatMap Bd.cells) := by
  obtain ⟨A, n, c, rows, rfl, _, hs, hr⟩ := open_rows_arg (s := 2) Try.underlying24 (by kernel_rfl) (by omega) hd hval
  obtain ⟨L, hL, _⟩ := exists_map (f := Bd.cells) (p := fun _ => True) (rows := rows) (fun r hr' => by
    obtain ⟨h1, k, y, hy⟩ := hr r hr'
    exact open_bd hy h1)
  have e : rows.flatten = L.flatMap Bd.cells := by rw [← hL]; rfl
  rw [e] at hs
  exact ⟨A, n, c, L, rfl, hs⟩
end
end Go.Proofs.Ytdlgjbijnhfbhaa
