/- The reference's pieces of bytes (layer 1), walked. -/
import Derived.Test.YtennpgdoepdboaaScanR
namespace Go.Proofs.Ytennpgdoepdboaa
open Go.RowKit
attribute [local go_sem ↓] Go.wp_at_zero Go.wp_at_succ

theorem rwidth_any (r : Int) (w : World) : Calls Try.prog 62 #[.int .i32 r] w fun e w' => e = .returned (.int .i64 (widthF r)) ∧ w = w' := by
  go_enter Try.func62, Try.ntmps62
  go_wp2
  all_goals go_ret
  all_goals
    refine ⟨ret_int ?_, rfl⟩
    unfold widthF
    repeat' split
    all_goals omega
theorem rune_any (v : Int) (w : World) (h0 : 0 ≤ v) (h1 : v ≤ 1114111) : Calls Try.prog 47 #[.int .i32 v] w fun e w' => ∃ A c, e = .returned (.slice A (encF v).length c) ∧ Sl w' 1 A (encF v).length c ((encF v).map (Value.int .u8)) ∧ Kept w w' := by
  have c1 : IntKind.i64.wrap v = v := IntWalk.i64_in _ (by omega)
  by_cases k1 : v < 128
  · have hw : widthF v = 1 := by unfold widthF; rw [if_neg (by omega), if_pos k1]
    rw [encF_one h0 k1]
    have c2 : IntKind.u8.wrap v = v := by
      have : 0 ≤ v ∧ v ≤ 255 := by omega
      simp [IntKind.wrap, IntKind.signed, IntKind.bits]
      omega
    clear h1
    go_enter Try.func47, Try.ntmps47
    go_wp2_with fail
    refine (rwidth_any v w).mono ?_
    rintro e w1 ⟨rfl, rfl⟩
    rw [hw]
    go_wp2_with fail
    go_ret
    exact ⟨_, _, rfl, Sl.litg (by rfl) rfl (by omega), (Kept.refl _).alloc _⟩
  by_cases k2 : v < 2048
  · have hw : widthF v = 2 := by unfold widthF; rw [if_neg (by omega), if_neg k1, if_pos k2]
    rw [encF_two (by omega) k2]
    go_enter Try.func47, Try.ntmps47
    go_wp2_with fail
    refine (rwidth_any v w).mono ?_
    rintro e w1 ⟨rfl, rfl⟩
    rw [hw]
    go_wp2_with fail
    go_ret
    exact ⟨_, _, rfl, Sl.litg (by rfl) rfl (by omega), (Kept.refl _).alloc _⟩
  by_cases k3 : v < 65536
  · by_cases k4 : v < 55296 ∨ 57343 < v
    · have hw : widthF v = 3 := by unfold widthF; rw [if_neg (by omega), if_neg k1, if_neg k2, if_pos k3]
      rw [encF_three (by omega) k3 k4]
      go_enter Try.func47, Try.ntmps47
      go_wp2_with fail
      refine (rwidth_any v w).mono ?_
      rintro e w1 ⟨rfl, rfl⟩
      rw [hw]
      go_wp2_with fail
      go_ret
      exact ⟨_, _, rfl, Sl.litg (by rfl) rfl (by omega), (Kept.refl _).alloc _⟩
    · have hw : widthF v = 0 := by unfold widthF; rw [if_pos (by omega)]
      rw [encF_none (by omega)]
      go_enter Try.func47, Try.ntmps47
      go_wp2_with fail
      refine (rwidth_any v w).mono ?_
      rintro e w1 ⟨rfl, rfl⟩
      rw [hw]
      go_wp2_with fail
      go_ret
      exact ⟨none, 0, rfl, Sl.nil_, Kept.refl _⟩
  · have hw : widthF v = 4 := by unfold widthF; rw [if_neg (by omega), if_neg k1, if_neg k2, if_neg k3]
    rw [encF_four (by omega) h1]
    go_enter Try.func47, Try.ntmps47
    go_wp2_with fail
    refine (rwidth_any v w).mono ?_
    rintro e w1 ⟨rfl, rfl⟩
    rw [hw]
    go_wp2_with fail
    go_ret
    exact ⟨_, _, rfl, Sl.litg (by rfl) rfl (by omega), (Kept.refl _).alloc _⟩

theorem appT_bytes : AppT Try.prog 51 5 1 := appT_mk (z := .int .u8 0) (bytes := 1) Try.underlying51 (by kernel_rfl) rfl (by omega) (by omega)
/-- The bytes that lie ahead of a number of n bytes. -/
def leadN (n : Nat) : Int := if n = 2 then 192 else if n = 3 then 224 else if n = 4 then 240 else 0
/-- The number that the first i of n bytes tell. -/
def accF (n : Nat) (B : List Int) : Nat → Int
  | 0 => 0
  | 1 => B.getD 0 0 - leadN n
  | i + 2 => 64 * accF n B (i + 1) + B.getD (i + 1) 0 - 128
theorem accF_num {n : Nat} {B : List Int} (h1 : 1 ≤ n) (h4 : n ≤ 4) : accF n B n = numF n (B.getD 0 0) (B.getD 1 0) (B.getD 2 0) (B.getD 3 0) := by
  rcases (show n = 1 ∨ n = 2 ∨ n = 3 ∨ n = 4 by omega) with rfl | rfl | rfl | rfl
  · simp [accF, numF, leadN]
  · simp [accF, numF, leadN]
  · simp [accF, numF, leadN]
  · simp [accF, numF, leadN]
theorem accF_bd {n : Nat} {B : List Int} (hb : ∀ x ∈ B, 0 ≤ x ∧ x ≤ 255) : ∀ i, i ≤ 4 → -300000000 ≤ accF n B i ∧ accF n B i ≤ 300000000 := by
  have hl : 0 ≤ leadN n ∧ leadN n ≤ 240 := by
    unfold leadN
    (repeat' split) <;> omega
  have g := getD_bd hb
  have s1 : -240 ≤ accF n B 1 ∧ accF n B 1 ≤ 255 := by
    have := g 0
    show -240 ≤ B.getD 0 0 - leadN n ∧ B.getD 0 0 - leadN n ≤ 255
    omega
  have s2 : accF n B 2 = 64 * accF n B 1 + B.getD 1 0 - 128 := rfl
  have s3 : accF n B 3 = 64 * accF n B 2 + B.getD 2 0 - 128 := rfl
  have s4 : accF n B 4 = 64 * accF n B 3 + B.getD 3 0 - 128 := rfl
  have g1 := g 1
  have g2 := g 2
  have g3 := g 3
  intro i hi
  rcases (show i = 0 ∨ i = 1 ∨ i = 2 ∨ i = 3 ∨ i = 4 by omega) with rfl | rfl | rfl | rfl | rfl
  · simp [accF]
  all_goals omega

theorem lead_cell (w : World) (t : TypeId) {m : Nat} (h1 : 1 ≤ m) (h4 : m ≤ 4) : (w.alloc (.cells #[.int .i64 0, .int .i64 0, .int .i64 192, .int .i64 224, .int .i64 240] t)).cell? ⟨w.heap.size, m, none⟩ = some (.int .i64 (leadN m)) := by
  rcases (show m = 1 ∨ m = 2 ∨ m = 3 ∨ m = 4 by omega) with rfl | rfl | rfl | rfl <;> simp [leadN]
theorem leadN_bd (n : Nat) : 0 ≤ leadN n ∧ leadN n ≤ 240 := by
  unfold leadN
  (repeat' split) <;> omega
theorem accF_succ {n i : Nat} {B : List Int} (hi : 1 ≤ i) : accF n B (i + 1) = 64 * accF n B i + B.getD i 0 - 128 := by
  obtain ⟨k, rfl⟩ : ∃ k, i = k + 1 := ⟨i - 1, by omega⟩
  rfl
theorem strOfNums_inj {a b : List Int} (ha : ∀ x ∈ a, 0 ≤ x ∧ x ≤ 255) (hb : ∀ x ∈ b, 0 ≤ x ∧ x ≤ 255) (h : (strOfNums a).data.toList = (strOfNums b).data.toList) : a = b := by
  rw [strOfNums_data, strOfNums_data] at h
  have back : ∀ l : List Int, (∀ x ∈ l, 0 ≤ x ∧ x ≤ 255) → (l.map fun n => UInt8.ofNat n.toNat).map (fun u => ((u.toNat : Nat) : Int)) = l := by
    intro l hl
    rw [List.map_map]
    conv => rhs; rw [← List.map_id l]
    apply List.map_congr_left
    intro x hx
    have := hl x hx
    simp
    omega
  rw [← back a ha, ← back b hb, h]
theorem encF_bd (v : Int) : ∀ x ∈ encF v, 0 ≤ x ∧ x ≤ 255 := by
  by_cases h0 : 0 ≤ v ∧ v ≤ 1114111
  · by_cases c1 : v < 128
    · rw [encF_one h0.1 c1]
      simp
      omega
    by_cases c2 : v < 2048
    · rw [encF_two (by omega) c2]
      simp
      omega
    by_cases c3 : v < 65536
    · by_cases c4 : v < 55296 ∨ 57343 < v
      · rw [encF_three (by omega) c3 c4]
        simp
        omega
      · rw [encF_none (by omega)]
        simp
    · rw [encF_four (by omega) h0.2]
      simp
      omega
  · unfold encF widthF
    rw [if_pos (show v < 0 ∨ 1114111 < v ∨ 55296 ≤ v ∧ v ≤ 57343 by omega), if_pos rfl]
    simp
theorem str_eq {a b : List Int} (ha : ∀ x ∈ a, 0 ≤ x ∧ x ≤ 255) (hb : ∀ x ∈ b, 0 ≤ x ∧ x ≤ 255) : ((strOfNums a).toList == (strOfNums b).toList) = decide (a = b) := by
  rw [ByteArray.toList_eq, ByteArray.toList_eq, Bool.eq_iff_iff]
  simp only [beq_iff_eq, decide_eq_true_eq]
  exact ⟨strOfNums_inj ha hb, fun e => by rw [e]⟩
end Go.Proofs.Ytennpgdoepdboaa
