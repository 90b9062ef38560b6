/- Small functions of the laws of layer 8, walked. -/
import Derived.Test.YtbebmmohambngaaTagV
namespace Go.Proofs.Ytbebmmohambngaa
open Go.RowKit

theorem few_any (A : Option Addr) (n c : Nat) (w : World) (hc : n ≤ c) (hm : c ≤ 9223372036854775807) :
    Calls Try.prog 6 #[.slice A n c] w fun e w' => (∃ m, m = min n 120 ∧ e = .returned (.slice A m c)) ∧ w = w' := by
  rcases (show 120 < n ∨ n ≤ 120 by omega) with hn | hn
  · have hcut := run_cut_h appT_runes A n c 120 (by omega)
    go_enter Try.func6, Try.ntmps6
    go_wp2
    go_ret
    exact ⟨⟨120, by omega, rfl⟩, rfl⟩
  · go_enter Try.func6, Try.ntmps6
    go_wp2
    go_ret
    exact ⟨⟨n, by omega, rfl⟩, rfl⟩
theorem like_same (k f t : Int) (w : World) :
    Calls Try.prog 9 #[.agg #[.int .i64 k, .int .i64 f, .int .i64 t], .agg #[.int .i64 k, .int .i64 f, .int .i64 t]] w fun e w' => e = .returned (.bool true) ∧ Kept w w' := by
  go_enter Try.func9, Try.ntmps9
  go_wp2
  go_ret
  exact ⟨rfl, by repeat (first | (with_reducible exact Kept.refl _) | (with_reducible refine Kept.alloc ?_ _))⟩
end Go.Proofs.Ytbebmmohambngaa
