/- The functions of layer 4, walked. -/
import Derived.Test.YtmicmmbdkmmnoaaClassP
namespace Go.Proofs.Ytmicmmbdkmmnoaa
open Go.RowKit

theorem in_any (r : Int) (A : Option Addr) (n c : Nat) (sp : List (Int × Int)) (w : World) (h : Sl w 2 A n c (sp.flatMap spanCells)) :
    Calls Try.prog 87 #[.int .i32 r, .slice A n c] w fun e w' => e = .returned (.bool (inSpans r sp)) ∧ Kept w w' := by
  have hm := h.max
  have hcap := h.cap
  go_enter Try.func87, Try.ntmps87
  go_wp2
  go_loopw [9] (fun i wr => ∃ k : Nat, k ≤ n ∧ i = .int .i64 k ∧ Kept w wr ∧ Hid (inSpans r (sp.take k) = false)) (fun i _ => n - (intOf i).toNat)
  case atStart => exact ⟨0, Nat.zero_le _, rfl, Kept.refl _, rfl⟩
  case round =>
    obtain ⟨k, hk, rfl, hkept, hno⟩ := hrel
    by_cases hlt : k < n
    · obtain ⟨b, o, ⟨lo, hi⟩, rfl, hx, hcells⟩ := (h.kept hkept).elem (s := 2) (fun _ => rfl) (by omega) hlt
      have h0 : wr.cell? ⟨b, o + k * 2, none⟩ = some (.int .i32 lo) := hcells 0 _ rfl
      have h1 := hcells 1 _ rfl
      clear hcells
      have HX := Lib.hid hx
      clear hx
      go_wp2
      · go_ret
        exact ⟨ret_bool (inSpans_hit HX.out ⟨by assumption, by assumption⟩).symm, hkept.alloc _⟩
      all_goals
        go_roundw
        case rel => exact ⟨k + 1, by omega, by go_num, hkept.alloc _, inSpans_step HX.out hno.out (by omega)⟩
        case measure => simp [intOf]; omega
    · go_wp2
      go_ret
      have hl := h.llen (s := 2) (fun _ => rfl) (by omega)
      have hend := hno.out
      rw [List.take_of_length_le (by omega)] at hend
      exact ⟨ret_bool hend.symm, hkept⟩

theorem nameStart_any (r : Int) (w : World) : Calls Try.prog 92 #[.int .i32 r] w fun e w' => e = .returned (.bool (nameStart r)) ∧ Kept w w' := by
  go_enter Try.func92, Try.ntmps92
  go_wp2_with (go_at_call 87; refine (in_any r _ _ _ nsSpans _ ?_).mono ?_; exact Sl.litf rfl rfl (by omega); rintro e w' ⟨rfl, hk⟩)
  go_ret
  exact ⟨rfl, ((Kept.refl _).alloc _).trans hk⟩

theorem char_any (r : Int) (w : World) : Calls Try.prog 74 #[.int .i32 r] w fun e w' => e = .returned (.bool (isChar r)) ∧ Kept w w' := by
  go_enter Try.func74, Try.ntmps74
  go_wp2_with (go_at_call 87; refine (in_any r _ _ _ chSpans _ ?_).mono ?_; exact Sl.litf rfl rfl (by omega); rintro e w' ⟨rfl, hk⟩)
  go_ret
  exact ⟨rfl, ((Kept.refl _).alloc _).trans hk⟩

theorem nameChar_any (r : Int) (w : World) : Calls Try.prog 93 #[.int .i32 r] w fun e w' => e = .returned (.bool (nameChar r)) ∧ Kept w w' := by
  cases hs : nameStart r
  · go_enter Try.func93, Try.ntmps93
    go_wp2_with (first
      | (go_at_call 92; refine (nameStart_any r _).mono ?_; rintro e w' ⟨rfl, hk⟩)
      | (go_at_call 87; refine (in_any r _ _ _ nmSpans _ ?_).mono ?_; exact Sl.litf rfl rfl (by omega); rintro e w' ⟨rfl, hk2⟩))
    go_ret
    exact ⟨ret_bool (by simp [nameChar, hs, nameMore]), (hk.alloc _).trans hk2⟩
  · go_enter Try.func93, Try.ntmps93
    go_wp2_with (go_at_call 92; refine (nameStart_any r _).mono ?_; rintro e w' ⟨rfl, hk⟩)
    go_ret
    exact ⟨ret_bool (by simp [nameChar, hs]), hk⟩

theorem digit_any (r : Int) (w : World) : Calls Try.prog 95 #[.int .i32 r] w fun e w' => e = .returned (.tuple #[.int .i64 (digV r), .bool (digB r)]) ∧ w = w' := by
  go_enter Try.func95, Try.ntmps95
  go_wp2
  all_goals go_ret2
  all_goals refine ⟨ret_pair ?_ ?_, rfl⟩
  all_goals simp [digV, digB]
  all_goals try omega

end Go.Proofs.Ytmicmmbdkmmnoaa
