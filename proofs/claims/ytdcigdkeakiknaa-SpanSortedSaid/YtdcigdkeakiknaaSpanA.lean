/- The example of layer 6, walked. -/
import Derived.Test.YtdcigdkeakiknaaSpanR
import Derived.Test.YtdcigdkeakiknaaStr
namespace Go.Proofs.Ytdcigdkeakiknaa
open Go.RowKit

theorem awake_any (w : World) : Calls Try.prog 11 #[] w fun e w' => e = .returned (.bool true) ∧ Kept w w' := by
  have kc := fun (w : World) (C : Array Value) (n c g : Nat) (hg : g = w.heap.size) => Go.Joins.run_convert_bytes_const_at (P := Try.prog) w 40 5 C n c g hg Try.underlying40 Try.underlying5
  go_enter Try.func11, Try.ntmps11
  go_wp2_with fail
  refine (line_any _ _ _ [97, 13, 10, 98] 3 _ (Sl.litg rfl rfl (by omega)) (by omega) 3 (by omega) (.inr (.inl rfl))).mono ?_
  rintro e w' ⟨rfl, rfl⟩
  have e1 : (lcAt [97, 13, 10, 98] 3) = (2, 1) := by decide
  rw [e1]
  clear e1
  go_wp2_with fail
  refine (replace_ok _ _ _ [97, 98, 99] 1 2 _ _ _ [120, 121] _ ?_ ?_ (by omega) ?_ ?_ ?_).mono ?_
  · exact Sl.kept (Sl.litz (by simp) rfl (by omega)) ((Kept.refl _).alloc _)
  · exact Sl.litz (by simp) rfl (by omega)
  · omega
  · omega
  · omega
  rintro e w1 ⟨A2, n2, c2, rfl, hs2, hn2, hk2⟩
  simp at hn2
  subst hn2
  have hst := run_str (P := Try.prog) Try.underlying40 Try.underlying5 Try.underlying9 (l := [97, 120, 121, 99]) hs2
  have e2 : strOfNums [97, 120, 121, 99] = ⟨#[97, 120, 121, 99]⟩ := by decide
  rw [e2] at hst
  clear e2
  go_wp2
  go_ret
  exact ⟨rfl, (((((Kept.refl _).alloc _).alloc _).alloc _)).trans hk2⟩
end Go.Proofs.Ytdcigdkeakiknaa
