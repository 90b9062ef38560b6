/- Digits, walked. -/
import Derived.Test.YtmicmmbdkmmnoaaClassW
import Derived.Lib.Bytealg
namespace Go.Proofs.Ytmicmmbdkmmnoaa
open Go.RowKit

theorem hex_any (r : Int) (h0 : -2147483648 ≤ r) (h1 : r ≤ 2147483647) (w : World) : Calls Try.prog 86 #[.int .i32 r] w fun e w' => e = .returned (.tuple #[.int .i64 (hexV r), .bool (hexB r)]) ∧ w = w' := by
  rcases (show (97 ≤ r ∧ r ≤ 102) ∨ (65 ≤ r ∧ r ≤ 70) ∨ (¬ (97 ≤ r ∧ r ≤ 102) ∧ ¬ (65 ≤ r ∧ r ≤ 70)) by omega) with hc | hc | hc
  · obtain ⟨a, b⟩ := hc
    go_enter Try.func86, Try.ntmps86
    go_wp2
    go_ret2
    exact ⟨ret_pair (by simp [hexV]; omega) (by simp [hexB]; omega), rfl⟩
  · obtain ⟨a, b⟩ := hc
    go_enter Try.func86, Try.ntmps86
    go_wp2
    all_goals go_ret2
    exact ⟨ret_pair (by simp [hexV]; omega) (by simp [hexB]; omega), rfl⟩
  · go_enter Try.func86, Try.ntmps86
    go_wp2_with (go_at_call 95; refine (digit_any _ _).mono ?_; rintro e w' ⟨rfl, rfl⟩)
    all_goals go_ret2
    all_goals exact ⟨ret_pair (by simp [hexV]; omega) (by cases hd : digB r <;> simp [hexB, hd] <;> omega), rfl⟩

def signBytes : List UInt8 := [32, 13, 10, 45, 39, 40, 41, 43, 44, 46, 47, 58, 61, 63, 59, 33, 42, 35, 64, 36, 95, 37]
theorem signs_fin : ∀ n : Fin 128, (decide (0 ≤ Lib.indexByte signBytes n.val.toUInt8)) = (decide ((n.val : Int) = 32) || decide ((n.val : Int) = 13) || decide ((n.val : Int) = 10) || pubSigns.any (fun c => decide (c = (n.val : Int)))) := by decide +kernel
theorem signs_int (r : Int) (h0 : 0 < r) (h1 : r < 128) : (decide (0 ≤ Lib.indexByte signBytes r.toNat.toUInt8)) = (decide (r = 32) || decide (r = 13) || decide (r = 10) || pubSigns.any (fun c => decide (c = r))) := by
  have h := signs_fin ⟨r.toNat, by omega⟩
  have e : ((r.toNat : Nat) : Int) = r := by omega
  simp only [e] at h
  exact h

end Go.Proofs.Ytmicmmbdkmmnoaa
