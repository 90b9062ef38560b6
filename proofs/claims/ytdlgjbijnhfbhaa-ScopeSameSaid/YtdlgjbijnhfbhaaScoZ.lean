/- Names among the arguments, opened. -/
import Derived.Test.YtdlgjbijnhfbhaaLawO
namespace Go.Proofs.Ytdlgjbijnhfbhaa
open Go.ChangeShapes Go.WideShapes Go.ChangeAt Go.RowKit Go.Joins Go.Deep

section
variable {H : Type} {enc : TypeId × Value → H} {w : World} {base : Nat} {spare : Nat → Bool} {held : Bool}
set_option maxRecDepth 100000 in
theorem open_name_arg {r : Reach} {b0 : Nat} {v : Value} {d : DataW H} {ps : List MemPlace} (hval : Value.okWide Try.prog w r b0 33 v) (hd : DataW.Trod enc Try.prog w base spare held 33 v d ps) :
    ∃ a b c : ByteArray, v = .agg #[.string a, .string b, .string c] := by
  obtain ⟨v0, v1, v2, y0, y1, y2, n, rfl, _, _, g0, g1, g2⟩ := open_agg3 Try.underlying33 (by kernel_rfl) (by kernel_rfl) hval hd
  obtain ⟨a, e0, _⟩ := DataW.trod_string Try.underlying9 g0
  obtain ⟨b, e1, _⟩ := DataW.trod_string Try.underlying9 g1
  obtain ⟨c, e2, _⟩ := DataW.trod_string Try.underlying9 g2
  simp at e0 e1 e2
  subst e0 e1 e2
  exact ⟨a, b, c, rfl⟩
end
end Go.Proofs.Ytdlgjbijnhfbhaa
