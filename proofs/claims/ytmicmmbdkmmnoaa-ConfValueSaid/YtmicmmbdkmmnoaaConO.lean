/- A config among the arguments, opened. -/
import Derived.Test.YtmicmmbdkmmnoaaLawO
import Derived.Test.YtmicmmbdkmmnoaaConP
namespace Go.Proofs.Ytmicmmbdkmmnoaa
open Go.ChangeShapes Go.WideShapes Go.ChangeAt Go.RowKit Go.Joins Go.Deep

theorem list7 {α : Type} : ∀ {l : List α}, l.length = 7 → ∃ a b c d e f g, l = [a, b, c, d, e, f, g]
  | [a, b, c, d, e, f, g], _ => ⟨a, b, c, d, e, f, g, rfl⟩
section
variable {H : Type} {enc : TypeId × Value → H} {w : World} {base : Nat} {spare : Nat → Bool} {held : Bool}
set_option maxRecDepth 100000 in
theorem open_cf_arg {r : Reach} {b0 : Nat} {v : Value} {d : DataW H} {ps : List MemPlace} (hval : Value.okWide Try.prog w r b0 27 v) (hd : DataW.Trod enc Try.prog w base spare held 27 v d ps) : ∃ c : Cf, v = c.val := by
  obtain ⟨cs, rfl, hsz⟩ := okWide_struct Try.underlying27 hval
  have hC : Try.prog.cellsOf 27 = 7 := by kernel_rfl
  rw [hC] at hsz
  obtain ⟨l, rfl⟩ : ∃ l : List Value, cs = l.toArray := ⟨cs.toList, by simp⟩
  obtain ⟨v0, v1, v2, v3, v4, v5, v6, rfl⟩ := list7 (l := l) (by simpa using hsz)
  obtain ⟨fuel, hf⟩ := hd
  obtain ⟨xs, n, _, _, _, hlen, hfi⟩ := DataW.trod_struct Try.underlying27 hf
  obtain ⟨y0, y1, y2, y3, y4, y5, y6, rfl⟩ := list7 (l := xs) (by simpa using hlen)
  have ki : Try.prog.cellsOf 3 = 1 := by kernel_rfl
  have kb : Try.prog.cellsOf 4 = 1 := by kernel_rfl
  have g0 := hfi 0 _ rfl
  have g1 := hfi 1 _ rfl
  have g2 := hfi 2 _ rfl
  have g3 := hfi 3 _ rfl
  have g4 := hfi 4 _ rfl
  have g5 := hfi 5 _ rfl
  have g6 := hfi 6 _ rfl
  simp [Value.cells, ki] at g0 g1 g2 g3 g4
  simp [Value.cells, kb] at g5 g6
  obtain ⟨z0, e0, _⟩ := DataW.trod_int Try.underlying3 g0
  obtain ⟨z1, e1, _⟩ := DataW.trod_int Try.underlying3 g1
  obtain ⟨z2, e2, _⟩ := DataW.trod_int Try.underlying3 g2
  obtain ⟨z3, e3, _⟩ := DataW.trod_int Try.underlying3 g3
  obtain ⟨z4, e4, _⟩ := DataW.trod_int Try.underlying3 g4
  obtain ⟨z5, e5, _⟩ := DataW.trod_bool Try.underlying4 g5
  obtain ⟨z6, e6, _⟩ := DataW.trod_bool Try.underlying4 g6
  simp at e0 e1 e2 e3 e4 e5 e6
  subst e0 e1 e2 e3 e4 e5 e6
  exact ⟨⟨z0, z1, z2, z3, z4, z5, z6⟩, rfl⟩
end
end Go.Proofs.Ytmicmmbdkmmnoaa
