/- The law RefsPut, walked. -/
import Derived.Test.YtennpgdoepdboaaRefsG
import Derived.Test.YtennpgdoepdboaaRefsH
namespace Go.Proofs.Ytennpgdoepdboaa
open Go.RowKit
attribute [local go_sem ↓] Go.wp_at_zero Go.wp_at_succ

set_option maxHeartbeats 4000000 in
theorem lawPut_any (A : Option Addr) (n c : Nat) (l : List Int) (q : Int) (w : World) (h : Sl w 1 A n c (l.map (Value.int .i32))) :
    Calls Try.prog 8 #[.slice A n c, .int .i32 q] w fun e w' => e = .returned (.bool true) ∧ Kept w w' := by
  go_enter Try.func8, Try.ntmps8
  go_wp2_with fail
  refine (few_any _ _ _ _ _ h).mono ?_
  rintro e w1 ⟨C1, rfl, h1, k1⟩
  have hN : min n 100 ≤ 100 := Nat.min_le_right _ _
  obtain ⟨N, hNe⟩ : ∃ N, min n 100 = N := ⟨_, rfl⟩
  rw [hNe] at h1 hN ⊢
  obtain ⟨L, hLe⟩ : ∃ L, l.take 100 = L := ⟨_, rfl⟩
  rw [hLe] at h1
  clear hNe hLe
  have hLN := h1.llen1
  have hOl := put_len L q L.length 0 (by omega)
  have hpm := put_means L q L.length 0 (by omega) (by omega)
  rw [List.drop_zero] at hpm
  go_wp2_with fail
  refine (put_any _ _ _ L q _ h1 (by omega)).mono ?_
  rintro e w2 ⟨OA, OC, rfl, hO, k2⟩
  have hk2 := k1.trans k2
  have h2 := h1.kept k2
  obtain ⟨O, hOe⟩ : ∃ O, putF L q 0 = O := ⟨_, rfl⟩
  have HO := Lib.hid hOe
  rw [hOe] at hO hOl hpm ⊢
  obtain ⟨M, hM⟩ : ∃ M, O.length = M := ⟨_, rfl⟩
  rw [hM] at hO hOl ⊢
  have HM := Lib.hid hM
  clear hOe hM k1 k2 h1
  go_wp2_with fail
  refine (plainly_any _ _ _ O _ hO (by omega)).mono ?_
  rintro e w3 ⟨hpc, k3⟩
  rw [hpm] at hpc
  obtain ⟨PA, PC, rfl, hPl⟩ := hpc
  rw [hLN] at hPl ⊢
  have hk3 := hk2.trans k3
  have h3 := h2.kept k3
  have hO3 := hO.kept k3
  clear hk2 k3 h2 hO hpm
  go_wp2_with fail
  refine (rput_any _ _ _ L q _ h3 (by omega)).mono ?_
  rintro e w4 ⟨RA, RC, rfl, hR, k4⟩
  rw [HO.out, HM.out] at hR ⊢
  have hk4 := hk3.trans k4
  have h4 := h3.kept k4
  have hO4 := hO3.kept k4
  have hP4 := hPl.kept k4
  clear hk3 k4 h3 hO3 hPl
  go_wp2_with fail
  refine (same_any _ _ _ _ _ _ _ hO4 hR (by omega)).mono ?_
  rintro e w5 ⟨rfl, k5⟩
  have hk5 := hk4.trans k5
  have h5 := h4.kept k5
  have hP5 := hP4.kept k5
  clear hk4 k5 h4 hO4 hR hP4
  go_wp2_with fail
  refine (same_any _ _ _ _ _ _ _ hP5 h5 (by omega)).mono ?_
  rintro e w6 ⟨rfl, k6⟩
  have hk6 := hk5.trans k6
  clear hk5 k6 h5 hP5
  go_wp2_with fail
  refine (awake_any _).mono ?_
  rintro e w7 ⟨rfl, k7⟩
  go_wp2_with fail
  go_ret
  exact ⟨rfl, hk6.trans k7⟩
end Go.Proofs.Ytennpgdoepdboaa
