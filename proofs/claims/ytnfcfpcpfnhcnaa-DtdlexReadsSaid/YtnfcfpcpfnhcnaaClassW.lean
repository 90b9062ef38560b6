/- The functions of layer 4, walked. -/
import Derived.Test.YtnfcfpcpfnhcnaaClassP
namespace Go.Proofs.Ytnfcfpcpfnhcnaa
open Go.RowKit

theorem is_any (r lo hi : Int) (w : World) : Calls Try.prog 65 #[.int .i32 r, .int .i32 lo, .int .i32 hi] w fun e w' => e = .returned (.bool (within r lo hi)) ∧ w = w' := by
  go_enter Try.func65, Try.ntmps65
  go_wp2
  all_goals go_ret
  all_goals refine ⟨?_, rfl⟩
  all_goals (simp [within, *]; try omega)

theorem in_any (r : Int) (A : Option Addr) (n c : Nat) (sp : List (Int × Int)) (w : World) (h : Sl w 2 A n c (sp.flatMap spanCells)) :
    Calls Try.prog 62 #[.int .i32 r, .slice A n c] w fun e w' => e = .returned (.bool (inSpans r sp)) ∧ Kept w w' := by
  have hm := h.max
  have hcap := h.cap
  go_enter Try.func62, Try.ntmps62
  go_wp2
  go_loopw [9] (fun i wr => ∃ k : Nat, k ≤ n ∧ i = .int .i64 k ∧ Kept w wr ∧ Hid (inSpans r (sp.take k) = false)) (fun i _ => n - (intOf i).toNat)
  case atStart => exact ⟨0, Nat.zero_le _, rfl, Kept.refl _, rfl⟩
  case round =>
    obtain ⟨k, hk, rfl, hkept, hno⟩ := hrel
    by_cases hlt : k < n
    · obtain ⟨b, o, ⟨lo, hi⟩, rfl, hx, hcells⟩ := (h.kept hkept).elem (s := 2) (fun _ => rfl) (by omega) hlt
      have h0 : wr.cell? ⟨b, o + k * 2, none⟩ = some (.int .i32 lo) := hcells 0 _ rfl
      have h1 := hcells 1 _ rfl
      clear hcells
      have HX := Lib.hid hx
      clear hx
      go_wp2
      · go_ret
        exact ⟨ret_bool (inSpans_hit HX.out ⟨by assumption, by assumption⟩).symm, hkept.alloc _⟩
      all_goals
        go_roundw
        case rel => exact ⟨k + 1, by omega, by go_num, hkept.alloc _, inSpans_step HX.out hno.out (by omega)⟩
        case measure => simp [intOf]; omega
    · go_wp2
      go_ret
      have hl := h.llen (s := 2) (fun _ => rfl) (by omega)
      have hend := hno.out
      rw [List.take_of_length_le (by omega)] at hend
      exact ⟨ret_bool hend.symm, hkept⟩

theorem nameStart_any (r : Int) (w : World) : Calls Try.prog 56 #[.int .i32 r] w fun e w' => e = .returned (.bool (nameStart r)) ∧ Kept w w' := by
  go_enter Try.func56, Try.ntmps56
  go_wp2_with (go_at_call 62; refine (in_any r _ _ _ nsSpans _ ?_).mono ?_; exact Sl.litf rfl rfl (by omega); rintro e w' ⟨rfl, hk⟩)
  go_ret
  exact ⟨rfl, ((Kept.refl _).alloc _).trans hk⟩

theorem nameChar_any (r : Int) (w : World) : Calls Try.prog 57 #[.int .i32 r] w fun e w' => e = .returned (.bool (nameChar r)) ∧ Kept w w' := by
  cases hs : nameStart r
  · go_enter Try.func57, Try.ntmps57
    go_wp2_with (first
      | (go_at_call 56; refine (nameStart_any r _).mono ?_; rintro e w' ⟨rfl, hk⟩)
      | (go_at_call 62; refine (in_any r _ _ _ nmSpans _ ?_).mono ?_; exact Sl.litf rfl rfl (by omega); rintro e w' ⟨rfl, hk2⟩))
    go_ret
    exact ⟨ret_bool (by simp [nameChar, hs, nameMore]), (hk.alloc _).trans hk2⟩
  · go_enter Try.func57, Try.ntmps57
    go_wp2_with (go_at_call 56; refine (nameStart_any r _).mono ?_; rintro e w' ⟨rfl, hk⟩)
    go_ret
    exact ⟨ret_bool (by simp [nameChar, hs]), hk⟩

theorem space_any (r : Int) (w : World) : Calls Try.prog 39 #[.int .i32 r] w fun e w' => e = .returned (.bool (isSpace r)) ∧ w = w' := by
  go_enter Try.func39, Try.ntmps39
  go_wp2
  all_goals go_ret
  all_goals refine ⟨ret_bool ?_, rfl⟩
  all_goals (rw [Bool.eq_iff_iff]; simp [isSpace]; try omega)

theorem rspace_any (r : Int) (w : World) : Calls Try.prog 43 #[.int .i32 r] w fun e w' => e = .returned (.bool (isSpace r)) ∧ w = w' := by
  go_enter Try.func43, Try.ntmps43
  go_wp2
  all_goals go_ret
  all_goals refine ⟨ret_bool ?_, rfl⟩
  all_goals (rw [Bool.eq_iff_iff]; simp [isSpace]; try omega)

theorem letter_any (r : Int) (w : World) : Calls Try.prog 64 #[.int .i32 r] w fun e w' => e = .returned (.bool (isLetter r)) ∧ w = w' := by
  cases h1 : within r 97 122
  all_goals
    go_enter Try.func64, Try.ntmps64
    go_wp2_with (go_at_call 65; refine (is_any _ _ _ _).mono ?_; rintro e w' ⟨rfl, rfl⟩)
    go_ret
    exact ⟨ret_bool (by simp [isLetter, h1]), rfl⟩

theorem rnameStart_any (r : Int) (w : World) : Calls Try.prog 58 #[.int .i32 r] w fun e w' => e = .returned (.bool (nameStart r)) ∧ w = w' := by
  go_enter Try.func58, Try.ntmps58
  go_wp2_with (first
    | (go_at_call 65; refine (is_any _ _ _ _).mono ?_; rintro e w' ⟨rfl, rfl⟩)
    | (go_at_call 64; refine (letter_any _ _).mono ?_; rintro e w' ⟨rfl, rfl⟩))
  all_goals go_ret
  all_goals refine ⟨ret_bool ?_, rfl⟩
  all_goals (rw [Bool.eq_iff_iff]; simp [nameStart, inSpans, nsSpans, within, isLetter] at *; try omega)

theorem rnameChar_any (r : Int) (w : World) : Calls Try.prog 59 #[.int .i32 r] w fun e w' => e = .returned (.bool (nameChar r)) ∧ w = w' := by
  go_enter Try.func59, Try.ntmps59
  go_wp2_with (first
    | (go_at_call 65; refine (is_any _ _ _ _).mono ?_; rintro e w' ⟨rfl, rfl⟩)
    | (go_at_call 58; refine (rnameStart_any _ _).mono ?_; rintro e w' ⟨rfl, rfl⟩))
  all_goals go_ret
  all_goals refine ⟨ret_bool ?_, rfl⟩
  all_goals cases hns : nameStart r
  all_goals (rw [Bool.eq_iff_iff]; simp [nameChar, nameMore, inSpans, nmSpans, within, hns] at *; try omega)

end Go.Proofs.Ytnfcfpcpfnhcnaa
