/- Small functions of configs: walked. -/
import Derived.Test.YtmicmmbdkmmnoaaConP
import Derived.Test.YtmicmmbdkmmnoaaBlk
import Derived.Test.YtmicmmbdkmmnoaaQuiet
import Derived.BigRegion
import Derived.IntWalk
namespace Go.Proofs.Ytmicmmbdkmmnoaa
open Go.RowKit
attribute [local go_sem ↓] Go.wp_at_zero Go.wp_at_succ

theorem within_any (n lo hi : Int) (h : lo ≤ hi) (w : World) : Calls Try.prog 29 #[.int .i64 n, .int .i64 lo, .int .i64 hi] w fun e w' => e = .returned (.int .i64 (near n lo hi)) ∧ w = w' := by
  have HN : Hid (near n lo hi = if n < lo then lo else if hi < n then hi else n) := rfl
  obtain ⟨z, hz⟩ : ∃ z, near n lo hi = z := ⟨_, rfl⟩
  rw [hz] at HN ⊢
  clear hz
  go_enter Try.func29, Try.ntmps29
  go_wp2_with fail
  all_goals
    go_ret
    refine ⟨ret_int ?_, rfl⟩
    rw [HN.out]
    (repeat' split) <;> omega
theorem near_any (n lo hi : Int) (w : World) : Calls Try.prog 30 #[.int .i64 n, .int .i64 lo, .int .i64 hi] w fun e w' => e = .returned (.int .i64 (near n lo hi)) ∧ w = w' := by
  have HN : Hid (near n lo hi = if n < lo then lo else if hi < n then hi else n) := rfl
  obtain ⟨z, hz⟩ : ∃ z, near n lo hi = z := ⟨_, rfl⟩
  rw [hz] at HN ⊢
  clear hz
  by_cases h1 : n < lo
  · have HZ : Hid (z = lo) := by have := HN.out; rwa [if_pos h1] at this
    clear HN
    go_enter Try.func30, Try.ntmps30
    go_wp2_with fail
    go_ret
    exact ⟨ret_int HZ.out.symm, rfl⟩
  · by_cases h2 : hi < n
    · have HZ : Hid (z = hi) := by have := HN.out; rwa [if_neg h1, if_pos h2] at this
      clear HN
      go_enter Try.func30, Try.ntmps30
      go_wp2_with fail
      go_ret
      exact ⟨ret_int HZ.out.symm, rfl⟩
    · have HZ : Hid (z = n) := by have := HN.out; rwa [if_neg h1, if_neg h2] at this
      clear HN
      go_enter Try.func30, Try.ntmps30
      go_wp2_with fail
      go_ret
      exact ⟨ret_int HZ.out.symm, rfl⟩
set_option maxHeartbeats 2000000 in
theorem clamp_any (c : Cf) (w : World) : Calls Try.prog 11 #[c.val] w fun e w' => e = .returned (clampF c).val ∧ Kept w w' := by
  obtain ⟨ci, cd, cq, ce, cl, ct, cr⟩ := c
  have hv : (clampF ⟨ci, cd, cq, ce, cl, ct, cr⟩).val = .agg #[.int .i64 (near ci 0 8), .int .i64 (near cd 20 200), .int .i64 (near cq 0 2), .int .i64 (near ce 0 3), .int .i64 (near cl 0 2), .bool ct, .bool cr] := rfl
  rw [hv]
  clear hv
  have h1 := fun w => within_any ci 0 8 (by omega) w
  have h2 := fun w => within_any cd 20 200 (by omega) w
  have h3 := fun w => within_any cq 0 2 (by omega) w
  have h4 := fun w => within_any ce 0 3 (by omega) w
  have h5 := fun w => within_any cl 0 2 (by omega) w
  generalize near ci 0 8 = z1 at h1 ⊢
  generalize near cd 20 200 = z2 at h2 ⊢
  generalize near cq 0 2 = z3 at h3 ⊢
  generalize near ce 0 3 = z4 at h4 ⊢
  generalize near cl 0 2 = z5 at h5 ⊢
  have H1 := Lib.hid h1
  have H2 := Lib.hid h2
  have H3 := Lib.hid h3
  have H4 := Lib.hid h4
  have H5 := Lib.hid h5
  clear h1 h2 h3 h4 h5
  unfold Cf.val
  go_enter Try.func11, Try.ntmps11
  go_wp2_with fail
  refine (H1.out _).mono ?_
  rintro e w' ⟨rfl, rfl⟩
  go_wp2_with fail
  refine (H2.out _).mono ?_
  rintro e w' ⟨rfl, rfl⟩
  go_wp2_with fail
  refine (H3.out _).mono ?_
  rintro e w' ⟨rfl, rfl⟩
  go_wp2_with fail
  refine (H4.out _).mono ?_
  rintro e w' ⟨rfl, rfl⟩
  go_wp2_with fail
  refine (H5.out _).mono ?_
  rintro e w' ⟨rfl, rfl⟩
  go_wp2_with fail
  exact bodyPost_ret (v := .agg #[.int .i64 z1, .int .i64 z2, .int .i64 z3, .int .i64 z4, .int .i64 z5, .bool ct, .bool cr]) (by simp [results, Try.results11, go_sem]) rfl ⟨rfl, by repeat (first | (with_reducible exact Kept.refl _) | (with_reducible refine Kept.drewN ?_ _) | (with_reducible refine Kept.drew ?_) | (with_reducible refine Kept.setCell ?_ (by simp) _) | (with_reducible refine Kept.alloc ?_ _))⟩
set_option maxHeartbeats 2000000 in
theorem rclamp_any (c : Cf) (w : World) : Calls Try.prog 12 #[c.val] w fun e w' => e = .returned (clampF c).val ∧ Kept w w' := by
  obtain ⟨ci, cd, cq, ce, cl, ct, cr⟩ := c
  have hv : (clampF ⟨ci, cd, cq, ce, cl, ct, cr⟩).val = .agg #[.int .i64 (near ci 0 8), .int .i64 (near cd 20 200), .int .i64 (near cq 0 2), .int .i64 (near ce 0 3), .int .i64 (near cl 0 2), .bool ct, .bool cr] := rfl
  rw [hv]
  clear hv
  have h1 := fun w => near_any ci 0 8 w
  have h2 := fun w => near_any cd 20 200 w
  have h3 := fun w => near_any cq 0 2 w
  have h4 := fun w => near_any ce 0 3 w
  have h5 := fun w => near_any cl 0 2 w
  generalize near ci 0 8 = z1 at h1 ⊢
  generalize near cd 20 200 = z2 at h2 ⊢
  generalize near cq 0 2 = z3 at h3 ⊢
  generalize near ce 0 3 = z4 at h4 ⊢
  generalize near cl 0 2 = z5 at h5 ⊢
  have H1 := Lib.hid h1
  have H2 := Lib.hid h2
  have H3 := Lib.hid h3
  have H4 := Lib.hid h4
  have H5 := Lib.hid h5
  clear h1 h2 h3 h4 h5
  unfold Cf.val
  go_enter Try.func12, Try.ntmps12
  go_upto_region 1 with fail
  go_region_held3 (fun w' => w'.cell? ⟨w.heap.size, 0, none⟩ = some (.int .i64 ci) ∧ w'.cell? ⟨w.heap.size, 1, none⟩ = some (.int .i64 cd) ∧ w'.cell? ⟨w.heap.size, 2, none⟩ = some (.int .i64 cq) ∧ w'.cell? ⟨w.heap.size, 3, none⟩ = some (.int .i64 ce) ∧ w'.cell? ⟨w.heap.size, 4, none⟩ = some (.int .i64 cl) ∧ w'.cell? ⟨w.heap.size, 5, none⟩ = some (.bool ct) ∧ w'.cell? ⟨w.heap.size, 6, none⟩ = some (.bool cr)) (first | go_keep) (first
    | (go_at_call 30; first
    | ((with_reducible refine (H1.out _).mono ?_); rintro e w' ⟨rfl, rfl⟩)
    | ((with_reducible refine (H2.out _).mono ?_); rintro e w' ⟨rfl, rfl⟩)
    | ((with_reducible refine (H3.out _).mono ?_); rintro e w' ⟨rfl, rfl⟩)
    | ((with_reducible refine (H4.out _).mono ?_); rintro e w' ⟨rfl, rfl⟩)
    | ((with_reducible refine (H5.out _).mono ?_); rintro e w' ⟨rfl, rfl⟩)))
  all_goals go_wp2_with fail
  all_goals exact bodyPost_ret (v := .agg #[.int .i64 z1, .int .i64 z2, .int .i64 z3, .int .i64 z4, .int .i64 z5, .bool ct, .bool cr]) (by simp [results, Try.results12, go_sem]) rfl ⟨rfl, by repeat (first | (with_reducible exact Kept.refl _) | (with_reducible refine Kept.drewN ?_ _) | (with_reducible refine Kept.drew ?_) | (with_reducible refine Kept.setCell ?_ (by simp) _) | (with_reducible refine Kept.alloc ?_ _))⟩
theorem default_any (w : World) : Calls Try.prog 18 #[] w fun e w' => e = .returned (Cf.mk 2 80 0 0 0 false false).val ∧ Kept w w' := by
  have hv : (Cf.mk 2 80 0 0 0 false false).val = .agg #[.int .i64 2, .int .i64 80, .int .i64 0, .int .i64 0, .int .i64 0, .bool false, .bool false] := rfl
  rw [hv]
  go_enter Try.func18, Try.ntmps18
  go_wp2_with fail
  exact bodyPost_ret (v := .agg #[.int .i64 2, .int .i64 80, .int .i64 0, .int .i64 0, .int .i64 0, .bool false, .bool false]) (by simp [results, Try.results18, go_sem]) rfl ⟨rfl, by repeat (first | (with_reducible exact Kept.refl _) | (with_reducible refine Kept.drewN ?_ _) | (with_reducible refine Kept.drew ?_) | (with_reducible refine Kept.setCell ?_ (by simp) _) | (with_reducible refine Kept.alloc ?_ _))⟩
end Go.Proofs.Ytmicmmbdkmmnoaa
