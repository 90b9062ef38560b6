/- The laws SpanLen, SpanShift, walked. -/
import Derived.Test.YtdcigdkeakiknaaSpanA
namespace Go.Proofs.Ytdcigdkeakiknaa
open Go.RowKit

theorem lenF_bd {f t : Int} (h : f < t) : 1 ≤ lenF f t ∧ lenF f t ≤ 2147483647 := by unfold lenF; (repeat' split) <;> omega
theorem lenF_in {f t : Int} (h : f < t) (h1 : -2305843009213693952 ≤ f) (h2 : t ≤ 2305843009213693952) : (t - f ≤ 2147483647 → lenF f t = t - f) ∧ (2147483647 < t - f → lenF f t = 2147483647) := by
  unfold lenF
  constructor <;> intro h3 <;> (repeat' split) <;> omega

theorem spanLen_any (f t : Int) (w : World) (h1 : -9223372036854775808 ≤ f) (h2 : f ≤ 9223372036854775807) (h3 : -9223372036854775808 ≤ t) (h4 : t ≤ 9223372036854775807) :
    Calls Try.prog 4 #[.agg #[.int .i64 f, .int .i64 t]] w fun e w' => e = .returned (.bool true) ∧ Kept w w' := by
  rcases (show t ≤ f ∨ (f < t ∧ (f < -2305843009213693952 ∨ 2305843009213693952 < t)) ∨ (f < t ∧ -2305843009213693952 ≤ f ∧ t ≤ 2305843009213693952 ∧ t - f ≤ 2147483647) ∨ (f < t ∧ -2305843009213693952 ≤ f ∧ t ≤ 2305843009213693952 ∧ 2147483647 < t - f) by omega) with g | ⟨g, g2⟩ | ⟨g, g2, g3, g4⟩ | ⟨g, g2, g3, g4⟩
  · have hv : lenF f t = 0 := by unfold lenF; rw [if_pos g]
    have HV := Lib.hid hv
    clear hv
    go_enter Try.func4, Try.ntmps4
    go_wp2_with fail
    refine (ours_any _ _ _).mono ?_
    rintro e w1 ⟨rfl, rfl⟩
    go_wp2_with fail
    refine (len_any _ _ _ h1 h2 h3 h4).mono ?_
    rintro e w1 ⟨rfl, hk1⟩
    rw [HV.out]
    obtain ⟨hc1, hf1, hz1⟩ := hk1.old
    go_wp2_with fail
    refine (awake_any _).mono ?_
    rintro e w2 ⟨rfl, hk2⟩
    go_wp2
    go_ret
    exact ⟨rfl, (((Kept.refl _).alloc _ |>.alloc _ |>.alloc _).trans hk1).trans hk2⟩
  · have hb := lenF_bd g
    obtain ⟨hb1, hb2⟩ := hb
    rcases (show f < -2305843009213693952 ∨ (-2305843009213693952 ≤ f ∧ 2305843009213693952 < t) by omega) with g3 | ⟨g3, g4⟩
    all_goals
      go_enter Try.func4, Try.ntmps4
      go_wp2_with fail
      refine (ours_any _ _ _).mono ?_
      rintro e w1 ⟨rfl, rfl⟩
      go_wp2_with fail
      refine (len_any _ _ _ h1 h2 h3 h4).mono ?_
      rintro e w1 ⟨rfl, hk1⟩
      obtain ⟨hc1, hf1, hz1⟩ := hk1.old
      go_wp2_with fail
      refine (awake_any _).mono ?_
      rintro e w2 ⟨rfl, hk2⟩
      go_wp2
      go_ret
      exact ⟨rfl, (((Kept.refl _).alloc _ |>.alloc _ |>.alloc _).trans hk1).trans hk2⟩
  · have HV := Lib.hid ((lenF_in g g2 g3).1 g4)
    go_enter Try.func4, Try.ntmps4
    go_wp2_with fail
    refine (ours_any _ _ _).mono ?_
    rintro e w1 ⟨rfl, rfl⟩
    go_wp2_with fail
    refine (len_any _ _ _ h1 h2 h3 h4).mono ?_
    rintro e w1 ⟨rfl, hk1⟩
    rw [HV.out]
    obtain ⟨hc1, hf1, hz1⟩ := hk1.old
    go_wp2_with fail
    refine (awake_any _).mono ?_
    rintro e w2 ⟨rfl, hk2⟩
    go_wp2
    go_ret
    exact ⟨rfl, (((Kept.refl _).alloc _ |>.alloc _ |>.alloc _).trans hk1).trans hk2⟩
  · have HV := Lib.hid ((lenF_in g g2 g3).2 g4)
    go_enter Try.func4, Try.ntmps4
    go_wp2_with fail
    refine (ours_any _ _ _).mono ?_
    rintro e w1 ⟨rfl, rfl⟩
    go_wp2_with fail
    refine (len_any _ _ _ h1 h2 h3 h4).mono ?_
    rintro e w1 ⟨rfl, hk1⟩
    rw [HV.out]
    obtain ⟨hc1, hf1, hz1⟩ := hk1.old
    go_wp2_with fail
    refine (awake_any _).mono ?_
    rintro e w2 ⟨rfl, hk2⟩
    go_wp2
    go_ret
    exact ⟨rfl, (((Kept.refl _).alloc _ |>.alloc _ |>.alloc _).trans hk1).trans hk2⟩

set_option maxHeartbeats 1000000 in
theorem spanShift_any (x f t n : Int) (w : World) (h1 : -9223372036854775808 ≤ f) (h2 : f ≤ 9223372036854775807) (h3 : -9223372036854775808 ≤ t) (h4 : t ≤ 9223372036854775807) :
    Calls Try.prog 7 #[.int .i64 x, .agg #[.int .i64 f, .int .i64 t], .int .i64 n] w fun e w' => e = .returned (.bool true) ∧ Kept w w' := by
  cases hw : wrongF x f t n
  · have HW := Lib.hid hw
    simp only [wrongF, Bool.or_eq_false_iff, decide_eq_false_iff_not] at hw
    obtain ⟨⟨⟨⟨⟨⟨g1, g2⟩, g3⟩, g4⟩, g5⟩, g6⟩, g7⟩ := hw
    by_cases g8 : x < t
    · have HV : Hid (shiftF x f t n = f) := by
        unfold Hid shiftF
        rw [HW.out, if_neg (by simp), if_neg (by omega)]
      go_enter Try.func7, Try.ntmps7
      go_wp2_with fail
      refine (ours_any _ _ _).mono ?_
      rintro e w1 ⟨rfl, rfl⟩
      go_wp2_with fail
      refine (shift_any _ _ _ _ _ h1 h2 h3 h4).mono ?_
      rintro e w1 ⟨rfl, hk1⟩
      rw [HV.out]
      obtain ⟨hc1, hf1, hz1⟩ := hk1.old
      go_wp2_with (go_at_call 11; refine (awake_any _).mono ?_; rintro e w2 ⟨rfl, hk2⟩)
      go_ret
      exact ⟨rfl, (((Kept.refl _).alloc _ |>.alloc _ |>.alloc _).trans hk1).trans hk2⟩
    · have hb : 0 ≤ lenF f t ∧ lenF f t ≤ 2147483647 := by unfold lenF; (repeat' split) <;> omega
      obtain ⟨hb1, hb2⟩ := hb
      have HV : Hid (shiftF x f t n = x + n - (t - f)) := by
        unfold Hid shiftF
        rw [HW.out, if_neg (by simp), if_pos (by omega)]
        unfold lenF
        (repeat' split) <;> omega
      go_enter Try.func7, Try.ntmps7
      go_wp2_with fail
      refine (ours_any _ _ _).mono ?_
      rintro e w1 ⟨rfl, rfl⟩
      go_wp2_with fail
      refine (shift_any _ _ _ _ _ h1 h2 h3 h4).mono ?_
      rintro e w1 ⟨rfl, hk1⟩
      rw [HV.out]
      obtain ⟨hc1, hf1, hz1⟩ := hk1.old
      go_wp2_with (go_at_call 11; refine (awake_any _).mono ?_; rintro e w2 ⟨rfl, hk2⟩)
      go_ret
      exact ⟨rfl, (((Kept.refl _).alloc _ |>.alloc _ |>.alloc _).trans hk1).trans hk2⟩
  · have HW := Lib.hid hw
    clear hw
    have HV : Hid (shiftF x f t n = x) := by
      unfold Hid shiftF
      rw [HW.out, if_pos rfl]
    go_enter Try.func7, Try.ntmps7
    go_wp2_with fail
    refine (ours_any _ _ _).mono ?_
    rintro e w1 ⟨rfl, rfl⟩
    go_wp2_with fail
    refine (shift_any _ _ _ _ _ h1 h2 h3 h4).mono ?_
    rintro e w1 ⟨rfl, hk1⟩
    rw [HV.out]
    obtain ⟨hc1, hf1, hz1⟩ := hk1.old
    go_wp2_with (go_at_call 11; refine (awake_any _).mono ?_; rintro e w2 ⟨rfl, hk2⟩)
    all_goals first
      | (exfalso; have := HW.out; simp [wrongF] at this; omega)
      | (go_ret; exact ⟨rfl, (((Kept.refl _).alloc _ |>.alloc _ |>.alloc _).trans hk1).trans hk2⟩)
end Go.Proofs.Ytdcigdkeakiknaa
