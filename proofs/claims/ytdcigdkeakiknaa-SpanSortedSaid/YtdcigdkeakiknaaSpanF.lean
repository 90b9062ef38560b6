/- The small functions of layer 6, walked. -/
import Derived.Test.YtdcigdkeakiknaaSpanP
import Derived.Test.YtdcigdkeakiknaaApp
namespace Go.Proofs.Ytdcigdkeakiknaa
open Go.RowKit

theorem ours_any (f t : Int) (w : World) : Calls Try.prog 12 #[.agg #[.int .i64 f, .int .i64 t]] w fun e w' => e = .returned (.agg #[.int .i64 f, .int .i64 t]) ∧
    (w.alloc (.cells #[.int .i64 f, .int .i64 t] 31)).alloc (.cells #[.int .i64 f, .int .i64 t] 32) = w' := by
  go_enter Try.func12, Try.ntmps12
  go_wp2
  exact bodyPost_ret (v := .agg #[.int .i64 f, .int .i64 t]) (by simp [results, Try.results12, go_sem]) rfl ⟨rfl, rfl⟩
theorem empty_any (f t : Int) (w : World) : Calls Try.prog 21 #[.agg #[.int .i64 f, .int .i64 t]] w fun e w' => e = .returned (.bool (emptyF f t)) ∧ w.alloc (.cells #[.int .i64 f, .int .i64 t] 32) = w' := by
  go_enter Try.func21, Try.ntmps21
  go_wp2
  go_ret
  exact ⟨rfl, rfl⟩
theorem has_any (f t x : Int) (w : World) : Calls Try.prog 15 #[.agg #[.int .i64 f, .int .i64 t], .int .i64 x] w fun e w' => e = .returned (.bool (hasF f t x)) ∧ Kept w w' := by
  go_enter Try.func15, Try.ntmps15
  go_wp2
  all_goals go_ret
  all_goals refine ⟨ret_bool ?_, (Kept.refl _).alloc _⟩
  all_goals (rw [Bool.eq_iff_iff]; simp [hasF]; try omega)
theorem meets_any (f t f' t' : Int) (w : World) : Calls Try.prog 16 #[.agg #[.int .i64 f, .int .i64 t], .agg #[.int .i64 f', .int .i64 t']] w fun e w' => e = .returned (.bool (meetsF f t f' t')) ∧ Kept w w' := by
  cases h1 : emptyF f t <;> cases h2 : emptyF f' t'
  all_goals
    go_enter Try.func16, Try.ntmps16
    go_wp2_with (go_at_call 21; refine (empty_any _ _ _).mono ?_; rintro e w' ⟨rfl, rfl⟩)
    all_goals go_ret
    all_goals refine ⟨ret_bool ?_, by repeat (first | exact Kept.refl _ | refine Kept.alloc ?_ _)⟩
    all_goals (rw [Bool.eq_iff_iff]; simp [meetsF, h1, h2]; try omega)
theorem joined_any (f t f' t' : Int) (w : World) : Calls Try.prog 14 #[.agg #[.int .i64 f, .int .i64 t], .agg #[.int .i64 f', .int .i64 t']] w fun e w' =>
    e = .returned (.agg #[.int .i64 (joinedF f t f' t').1, .int .i64 (joinedF f t f' t').2]) ∧ Kept w w' := by
  cases h1 : emptyF f t <;> cases h2 : emptyF f' t'
  all_goals
    go_enter Try.func14, Try.ntmps14
    go_wp2_with (go_at_call 21; refine (empty_any _ _ _).mono ?_; rintro e w' ⟨rfl, rfl⟩)
    all_goals refine bodyPost_ret (v := .agg #[.int .i64 (joinedF f t f' t').1, .int .i64 (joinedF f t f' t').2]) ?_ rfl ⟨rfl, by repeat (first | exact Kept.refl _ | refine Kept.alloc ?_ _)⟩
    all_goals simp only [emptyF, decide_eq_true_eq, decide_eq_false_iff_not] at h1 h2
    all_goals simp [results, Try.results14, go_sem, joinedF, h1, h2]
    all_goals try omega
theorem len_any (f t : Int) (w : World) (h1 : -9223372036854775808 ≤ f) (h2 : f ≤ 9223372036854775807) (h3 : -9223372036854775808 ≤ t) (h4 : t ≤ 9223372036854775807) :
    Calls Try.prog 13 #[.agg #[.int .i64 f, .int .i64 t]] w fun e w' => e = .returned (.int .i64 (lenF f t)) ∧ Kept w w' := by
  cases he : emptyF f t
  · simp only [emptyF, decide_eq_false_iff_not] at he
    by_cases hb : f < 0 ∧ f + 2147483647 < t
    · obtain ⟨hb1, hb2⟩ := hb
      have he2 : emptyF f t = false := by simpa [emptyF] using he
      go_enter Try.func13, Try.ntmps13
      go_wp2_with (go_at_call 21; refine (empty_any _ _ _).mono ?_; rintro e w' ⟨rfl, rfl⟩)
      go_ret
      exact ⟨ret_int (by unfold lenF; (repeat' split) <;> omega), by repeat (first | exact Kept.refl _ | refine Kept.alloc ?_ _)⟩
    · have he2 : emptyF f t = false := by simpa [emptyF] using he
      by_cases hf : f < 0
      · have hb2 : t ≤ f + 2147483647 := by omega
        go_enter Try.func13, Try.ntmps13
        go_wp2_with (go_at_call 21; refine (empty_any _ _ _).mono ?_; rintro e w' ⟨rfl, rfl⟩)
        all_goals go_ret
        all_goals exact ⟨ret_int (by unfold lenF; (repeat' split) <;> omega), by repeat (first | exact Kept.refl _ | refine Kept.alloc ?_ _)⟩
      · go_enter Try.func13, Try.ntmps13
        go_wp2_with (go_at_call 21; refine (empty_any _ _ _).mono ?_; rintro e w' ⟨rfl, rfl⟩)
        all_goals go_ret
        all_goals exact ⟨ret_int (by unfold lenF; (repeat' split) <;> omega), by repeat (first | exact Kept.refl _ | refine Kept.alloc ?_ _)⟩
  · go_enter Try.func13, Try.ntmps13
    go_wp2_with (go_at_call 21; refine (empty_any _ _ _).mono ?_; rintro e w' ⟨rfl, rfl⟩)
    go_ret
    simp only [emptyF, decide_eq_true_eq] at he
    exact ⟨ret_int (by unfold lenF; (repeat' split) <;> omega), by repeat (first | exact Kept.refl _ | refine Kept.alloc ?_ _)⟩
end Go.Proofs.Ytdcigdkeakiknaa
