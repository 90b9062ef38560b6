/- The reference's Lead of layer 5, walked; both Leads where there is no place. -/
import Derived.Test.YtmicmmbdkmmnoaaRun
namespace Go.Proofs.Ytmicmmbdkmmnoaa
open Go.RowKit

theorem start_nchar {r : Int} (h : nameStart r = true) : nameChar r = true := by simp [nameChar, h]
theorem leadF_yes {l : List Int} {k : Nat} {x : Int} (h : l[k]? = some x) (hs : nameStart x = true) : leadF (l.drop k) = 1 + runF nameChar (l.drop (k + 1)) := by
  rw [← runF_yes h (start_nchar hs), leadF, drop_get h]
  simp [hs]
theorem leadF_no {l : List Int} {k : Nat} {x : Int} (h : l[k]? = some x) (hs : nameStart x = false) : leadF (l.drop k) = 0 := by
  rw [leadF, drop_get h]
  simp [hs]
theorem leadF_end {l : List Int} {k : Nat} (h : l.length ≤ k) : leadF (l.drop k) = 0 := by
  rw [List.drop_eq_nil_of_le h]
  rfl

theorem lead_neg (A : Option Addr) (n c : Nat) (fr : Int) (w : World) (h0 : fr < 0) :
    Calls Try.prog 81 #[.slice A n c, .int .i64 fr] w fun e w' => e = .returned (.int .i64 0) ∧ Kept w w' := by
  go_enter Try.func81, Try.ntmps81
  go_wp2_with fail
  go_ret
  exact ⟨rfl, Kept.refl _⟩
end Go.Proofs.Ytmicmmbdkmmnoaa
