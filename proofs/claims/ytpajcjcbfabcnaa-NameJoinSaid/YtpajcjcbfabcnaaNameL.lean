/- The example of chapter 5; the law NameLead, walked. -/
import Derived.Test.YtpajcjcbfabcnaaNameW
namespace Go.Proofs.Ytpajcjcbfabcnaa
open Go.RowKit
attribute [local go_sem ↓] Go.wp_at_zero Go.wp_at_succ

theorem eg1 : splitF ⟨#[97, 58, 98]⟩ = (⟨#[97]⟩, ⟨#[98]⟩, true) := by decide +kernel
theorem eg2 : (splitF ⟨#[97, 58, 98, 58, 99]⟩).2.2 = false := by decide +kernel
theorem eg3 : leadF (([60, 120, 49, 32] : List Int).drop 1) = 2 := by decide +kernel
theorem awake_any (w : World) : Calls Try.prog 11 #[] w fun e w' => e = .returned (.bool true) ∧ Kept w w' := by
  obtain ⟨p2, l2, h2⟩ : ∃ p2 l2, splitF ⟨#[97, 58, 98, 58, 99]⟩ = (p2, l2, false) := ⟨_, _, by rw [← eg2]⟩
  go_enter Try.func11, Try.ntmps11
  go_wp2_with fail
  refine (split_any ⟨#[97, 58, 98]⟩ _ (by decide)).mono ?_
  rintro e w1 ⟨rfl, hk1⟩
  rw [eg1]
  go_wp2_with fail
  refine (split_any ⟨#[97, 58, 98, 58, 99]⟩ _ (by decide)).mono ?_
  rintro e w2 ⟨rfl, hk2⟩
  rw [h2]
  clear h2
  have hK := hk1.trans hk2
  go_wp2_with fail
  refine (lead_any _ 4 4 [60, 120, 49, 32] 1 _ (Sl.litg (by rfl) rfl (by omega)) (by omega)).mono ?_
  rintro e w3 ⟨rfl, hk3⟩
  rw [show leadF (([60, 120, 49, 32] : List Int).drop (1 : Int).toNat) = 2 from eg3]
  go_wp2_with fail
  go_ret
  exact ⟨rfl, (hK.alloc _).trans hk3⟩

theorem lawLead_any (A : Option Addr) (n c : Nat) (l : List Int) (fr : Int) (w : World) (h : Sl w 1 A n c (l.map (Value.int .i32))) :
    Calls Try.prog 3 #[.slice A n c, .int .i64 fr] w fun e w' => e = .returned (.bool true) ∧ Kept w w' := by
  have hcap := h.cap
  have hmax := h.max
  have main : ∀ (m : Nat) (L : List Int) (w : World), Sl w 1 A m c (L.map (Value.int .i32)) → ∃ r : Int, Calls Try.prog 9 #[.slice A m c, .int .i64 fr] w (fun e w' => e = .returned (.int .i64 r) ∧ Kept w w') ∧ ∀ w1, Kept w w1 → Calls Try.prog 10 #[.slice A m c, .int .i64 fr] w1 (fun e w' => e = .returned (.int .i64 r) ∧ Kept w1 w') := by
    intro m L w hL
    rcases (show fr < 0 ∨ 0 ≤ fr by omega) with h0 | h0
    · exact ⟨0, lead_neg _ _ _ _ _ h0, fun w1 _ => rlead_neg _ _ _ _ _ h0⟩
    · exact ⟨_, lead_any _ _ _ L _ _ hL h0, fun w1 hk => rlead_any _ _ _ L _ _ (hL.kept hk) h0⟩
  rcases (show 60 < n ∨ n ≤ 60 by omega) with hn | hn
  · have hcut := run_cut_h appT_runes A n c 60 (by omega)
    obtain ⟨r, c1, c2⟩ := main 60 (l.take 60) w (h.to1 (by omega))
    clear main
    go_enter Try.func3, Try.ntmps3
    go_wp2_with fail
    refine c1.mono ?_
    rintro e w1 ⟨rfl, hk1⟩
    clear c1
    go_wp2_with fail
    refine (c2 w1 hk1).mono ?_
    rintro e w2 ⟨rfl, hk2⟩
    clear c2
    go_wp2_with fail
    refine (awake_any _).mono ?_
    rintro e w3 ⟨rfl, hk3⟩
    go_wp2_with fail
    go_ret
    exact ⟨rfl, (hk1.trans hk2).trans hk3⟩
  · obtain ⟨r, c1, c2⟩ := main n l w h
    clear main
    go_enter Try.func3, Try.ntmps3
    go_wp2_with fail
    refine c1.mono ?_
    rintro e w1 ⟨rfl, hk1⟩
    clear c1
    go_wp2_with fail
    refine (c2 w1 hk1).mono ?_
    rintro e w2 ⟨rfl, hk2⟩
    clear c2
    go_wp2_with fail
    refine (awake_any _).mono ?_
    rintro e w3 ⟨rfl, hk3⟩
    go_wp2_with fail
    go_ret
    exact ⟨rfl, (hk1.trans hk2).trans hk3⟩
end Go.Proofs.Ytpajcjcbfabcnaa
