/- Names' texts: the document's Split and Token, the program's Join: walked. -/
import Derived.Test.YtdlgjbijnhfbhaaRefM
namespace Go.Proofs.Ytdlgjbijnhfbhaa
open Go.RowKit
attribute [local go_sem ↓] Go.wp_at_zero Go.wp_at_succ

theorem rsplit_any (s : ByteArray) (w : World) (hs : s.size ≤ 1000000) : Calls Try.prog 24 #[.string s] w fun e w' => e = .returned (.tuple #[.string (splitF s).1, .string (splitF s).2.1, .bool (splitF s).2.2]) ∧ Kept w w' := by
  have hlt := colF_lt s
  by_cases h0 : 0 ≤ colF s
  · have hcut : cutF s = (s.extract 0 (colF s).toNat, s.extract ((colF s).toNat + 1) s.size, true) := by unfold cutF; rw [if_pos h0]
    have hS : splitF s = if plainF (s.extract 0 (colF s).toNat) && plainF (s.extract ((colF s).toNat + 1) s.size) then (s.extract 0 (colF s).toNat, s.extract ((colF s).toNat + 1) s.size, true) else (⟨#[]⟩, ⟨#[]⟩, false) := by
      unfold splitF
      rw [hcut]
      rfl
    rw [hS]
    obtain ⟨k, hk⟩ := Int.eq_ofNat_of_zero_le h0
    rw [hk] at hlt ⊢
    have HK := Lib.hid hk
    rw [Int.toNat_natCast]
    have w3 : IntKind.i64.wrap ((k : Int) + 1) = (k : Int) + 1 := IntWalk.i64_in _ (by omega)
    have l1 : (0 : Int) ≤ k := by omega
    have l2 : (k : Int) ≤ s.size := by omega
    have l3 : (k : Int) + 1 ≤ s.size := by omega
    have l5 : (0 : Int) ≤ (k : Int) + 1 := by omega
    have l4 : ((k : Int) + 1).toNat = k + 1 := by omega
    have d0 : decide ((k : Int) < 0) = false := by simp
    have d1 : decide ((0 : Int) ≤ k) = true := by simp
    obtain ⟨P, hP⟩ : ∃ P, s.extract 0 k = P := ⟨_, rfl⟩
    obtain ⟨L, hL⟩ : ∃ L, s.extract (k + 1) s.size = L := ⟨_, rfl⟩
    have hPs : P.size ≤ 1000000 := by rw [← hP]; exact Nat.le_trans (extract_size _ _ _) hs
    have hLs : L.size ≤ 1000000 := by rw [← hL]; exact Nat.le_trans (extract_size _ _ _) hs
    rw [hP, hL]
    clear hS hcut hk h0 hlt
    cases hp : plainF P
    · go_enter Try.func24, Try.ntmps24
      go_wp2_with fail
      refine (colon_any s _ hs).mono ?_
      rintro e w1 ⟨rfl, hk1⟩
      rw [HK.out]
      go_wp2_with fail
      refine (rplain_any P _ hPs).mono ?_
      rintro e w2 ⟨rfl, hk2⟩
      rw [hp]
      go_wp2_with fail
      refine bodyPost_ret (v := .tuple #[.string ⟨#[]⟩, .string ⟨#[]⟩, .bool false]) ?_ rfl ⟨rfl, hk1.trans hk2⟩
      simp [results, Try.results24, go_sem]
    · cases hl : plainF L
      · go_enter Try.func24, Try.ntmps24
        go_wp2_with fail
        refine (colon_any s _ hs).mono ?_
        rintro e w1 ⟨rfl, hk1⟩
        rw [HK.out]
        go_wp2_with fail
        refine (rplain_any P _ hPs).mono ?_
        rintro e w2 ⟨rfl, hk2⟩
        rw [hp]
        go_wp2_with fail
        refine (rplain_any L _ hLs).mono ?_
        rintro e w3 ⟨rfl, hk3⟩
        rw [hl]
        go_wp2_with fail
        refine bodyPost_ret (v := .tuple #[.string ⟨#[]⟩, .string ⟨#[]⟩, .bool false]) ?_ rfl ⟨rfl, (hk1.trans hk2).trans hk3⟩
        simp [results, Try.results24, go_sem]
      · go_enter Try.func24, Try.ntmps24
        go_wp2_with fail
        refine (colon_any s _ hs).mono ?_
        rintro e w1 ⟨rfl, hk1⟩
        rw [HK.out]
        go_wp2_with fail
        refine (rplain_any P _ hPs).mono ?_
        rintro e w2 ⟨rfl, hk2⟩
        rw [hp]
        go_wp2_with fail
        refine (rplain_any L _ hLs).mono ?_
        rintro e w3 ⟨rfl, hk3⟩
        rw [hl]
        go_wp2_with fail
        go_quiet (fail)
        all_goals go_wp2_with fail
        all_goals refine bodyPost_ret (v := .tuple #[.string P, .string L, .bool true]) ?_ rfl ⟨rfl, by repeat (first | (with_reducible exact (hk1.trans hk2).trans hk3) | (with_reducible refine Kept.drewN ?_ _) | (with_reducible refine Kept.drew ?_))⟩
        all_goals simp [results, Try.results24, go_sem]
  · have hcut : cutF s = (s, ⟨#[]⟩, false) := by unfold cutF; rw [if_neg h0]
    have hS : splitF s = if plainF s then (⟨#[]⟩, s, true) else (⟨#[]⟩, ⟨#[]⟩, false) := by
      unfold splitF
      rw [hcut]
      rfl
    rw [hS]
    have d0 : decide (colF s < 0) = true := by simp; omega
    have d1 : decide (0 ≤ colF s) = false := by simp; omega
    clear hS hcut
    cases hp : plainF s
    · go_enter Try.func24, Try.ntmps24
      go_wp2_with fail
      refine (colon_any s _ hs).mono ?_
      rintro e w1 ⟨rfl, hk1⟩
      go_wp2_with fail
      refine (rplain_any s _ hs).mono ?_
      rintro e w2 ⟨rfl, hk2⟩
      rw [hp]
      go_wp2_with fail
      refine bodyPost_ret (v := .tuple #[.string ⟨#[]⟩, .string ⟨#[]⟩, .bool false]) ?_ rfl ⟨rfl, hk1.trans hk2⟩
      simp [results, Try.results24, go_sem]
    · go_enter Try.func24, Try.ntmps24
      go_wp2_with fail
      refine (colon_any s _ hs).mono ?_
      rintro e w1 ⟨rfl, hk1⟩
      go_wp2_with fail
      refine (rplain_any s _ hs).mono ?_
      rintro e w2 ⟨rfl, hk2⟩
      rw [hp]
      go_wp2_with fail
      refine bodyPost_ret (v := .tuple #[.string ⟨#[]⟩, .string s, .bool true]) ?_ rfl ⟨rfl, hk1.trans hk2⟩
      simp [results, Try.results24, go_sem]
/-- The name of two parts. -/
def joinF (p l : ByteArray) : ByteArray := if p.size = 0 then l else p ++ (⟨#[58]⟩ : ByteArray) ++ l
end Go.Proofs.Ytdlgjbijnhfbhaa
