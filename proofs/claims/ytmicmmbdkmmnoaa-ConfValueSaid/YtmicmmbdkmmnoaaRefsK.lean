/- Layer 14: Known, worth: walked. -/
import Derived.Test.YtmicmmbdkmmnoaaRefsN
namespace Go.Proofs.Ytmicmmbdkmmnoaa
open Go.RowKit
attribute [local go_sem ↓] Go.wp_at_zero Go.wp_at_succ

theorem known_any (s : ByteArray) (w : World) : Calls Try.prog 40 #[.string s] w fun e w' => e = .returned (.tuple #[.int .i32 (if 0 ≤ knownF s then knownF s else 0), .bool (decide (0 ≤ knownF s))]) ∧ w = w' := by
  have hK : knownF s = if (s.toList == [108, 116]) = true then 60 else if (s.toList == [103, 116]) = true then 62 else if (s.toList == [97, 109, 112]) = true then 38 else if (s.toList == [97, 112, 111, 115]) = true then 39 else if (s.toList == [113, 117, 111, 116]) = true then 34 else -1 := by
    unfold knownF
    rw [ByteArray.toList_eq]
  rw [hK]
  clear hK
  obtain ⟨b1, h1⟩ : ∃ b, (s.toList == [108, 116]) = b := ⟨_, rfl⟩
  obtain ⟨b2, h2⟩ : ∃ b, (s.toList == [103, 116]) = b := ⟨_, rfl⟩
  obtain ⟨b3, h3⟩ : ∃ b, (s.toList == [97, 109, 112]) = b := ⟨_, rfl⟩
  obtain ⟨b4, h4⟩ : ∃ b, (s.toList == [97, 112, 111, 115]) = b := ⟨_, rfl⟩
  obtain ⟨b5, h5⟩ : ∃ b, (s.toList == [113, 117, 111, 116]) = b := ⟨_, rfl⟩
  rw [h1, h2, h3, h4, h5]
  generalize hKK : (if b1 = true then (60 : Int) else if b2 = true then 62 else if b3 = true then 38 else if b4 = true then 39 else if b5 = true then 34 else -1) = KK
  obtain ⟨V, hV⟩ : ∃ V, (if 0 ≤ KK then KK else 0) = V := ⟨_, rfl⟩
  obtain ⟨B, hB⟩ : ∃ B, decide (0 ≤ KK) = B := ⟨_, rfl⟩
  rw [hV, hB]
  have HKK := Lib.hid hKK
  have HV := Lib.hid hV
  have HB := Lib.hid hB
  clear hKK hV hB
  rcases b1 with _ | _
  rotate_left
  · go_enter Try.func40, Try.ntmps40
    go_wp2_with fail
    go_ret2
    exact ⟨by rw [← HV.out, ← HB.out, ← HKK.out]; rfl, rfl⟩
  rcases b2 with _ | _
  rotate_left
  · go_enter Try.func40, Try.ntmps40
    go_wp2_with fail
    go_ret2
    exact ⟨by rw [← HV.out, ← HB.out, ← HKK.out]; rfl, rfl⟩
  rcases b3 with _ | _
  rotate_left
  · go_enter Try.func40, Try.ntmps40
    go_wp2_with fail
    go_ret2
    exact ⟨by rw [← HV.out, ← HB.out, ← HKK.out]; rfl, rfl⟩
  rcases b4 with _ | _
  rotate_left
  · go_enter Try.func40, Try.ntmps40
    go_wp2_with fail
    go_ret2
    exact ⟨by rw [← HV.out, ← HB.out, ← HKK.out]; rfl, rfl⟩
  rcases b5 with _ | _
  rotate_left
  · go_enter Try.func40, Try.ntmps40
    go_wp2_with fail
    go_ret2
    exact ⟨by rw [← HV.out, ← HB.out, ← HKK.out]; rfl, rfl⟩
  go_enter Try.func40, Try.ntmps40
  go_wp2_with fail
  go_ret2
  exact ⟨by rw [← HV.out, ← HB.out, ← HKK.out]; rfl, rfl⟩
theorem hexV_bd (x : Int) : 0 ≤ hexV x ∧ hexV x ≤ 15 := by
  unfold hexV digV
  (repeat' split) <;> omega
theorem worth_step {base v x : Int} {s : List Int} {k : Nat} (h : s[k]? = some x) : worthF base v (s.drop k) = worthF base (min (v * base + hexV x) 1114112) (s.drop (k + 1)) := by
  rw [drop_get h]
  rfl
theorem worth_any (A : Option Addr) (n c : Nat) (l : List Int) (base : Int) (w : World) (h : Sl w 1 A n c (l.map (Value.int .i32))) (_ : n ≤ 1000000) (h0 : 0 ≤ base) (h16 : base ≤ 16) :
    Calls Try.prog 73 #[.slice A n c, .int .i64 base] w fun e w' => e = .returned (.int .i32 (worthF base 0 l)) ∧ Kept w w' := by
  have hcap := h.cap
  have hmax := h.max
  have HL := Lib.hid h.llen1
  go_enter Try.func73, Try.ntmps73
  go_wp2_with fail
  go_loopw [5, 12] (fun s5 u wr => ∃ (k : Nat) (V : Int), k ≤ n ∧ u = .int .i64 k ∧ s5 = .int .i64 V ∧ 0 ≤ V ∧ V ≤ 1114112 ∧ Kept w wr ∧ Hid (worthF base 0 l = worthF base V (l.drop k))) (fun _ u _ => n - (intOf u).toNat)
  case atStart => exact ⟨0, 0, Nat.zero_le _, rfl, rfl, by omega, by omega, Kept.refl _, rfl⟩
  case round =>
    obtain ⟨k, V, hkn, rfl, rfl, hV0, hV1, hk, hinv⟩ := hrel
    by_cases hlt : k < n
    · obtain ⟨b, o, x, rfl, hx, hc, hb⟩ := (h.kept hk).oneb (k := k) hlt
      have HX := Lib.hid (worth_step (base := base) (v := V) hx)
      have hbd := hexV_bd x
      clear hx
      obtain ⟨d, hd⟩ : ∃ d, hexV x = d := ⟨_, rfl⟩
      rw [hd] at HX hbd
      obtain ⟨hd0, hd1⟩ := hbd
      have hm0 : 0 ≤ V * base := Int.mul_nonneg hV0 h0
      have hm1 : V * base ≤ 1114112 * 16 := Int.mul_le_mul hV1 h16 h0 (by omega)
      obtain ⟨M, hM⟩ : ∃ M, V * base = M := ⟨_, rfl⟩
      rw [hM] at HX hm0 hm1
      have wm : IntKind.i64.wrap (V * base) = M := by rw [hM]; exact IntWalk.i64_in _ (by omega)
      have wa : IntKind.i64.wrap (M + d) = M + d := IntWalk.i64_in _ (by omega)
      clear hM
      go_wp2_with fail
      refine (hexA_any _ _).mono ?_
      rintro e w1 ⟨rfl, rfl⟩
      rw [hd]
      clear hd
      by_cases hlm : (1114112 : Int) < M + d
      · have hmin : min (M + d) 1114112 = 1114112 := by omega
        rw [hmin] at HX
        go_wp2_with fail
        go_roundw
        case rel => exact ⟨k + 1, 1114112, hlt, by simp, rfl, by omega, by omega, hk, by unfold Hid; rw [hinv.out, HX.out]⟩
        case measure =>
          simp [intOf]
          omega
      · have hmin : min (M + d) 1114112 = M + d := by omega
        rw [hmin] at HX
        go_wp2_with fail
        go_roundw
        case rel => exact ⟨k + 1, M + d, hlt, by simp, rfl, by omega, by omega, hk, by unfold Hid; rw [hinv.out, HX.out]⟩
        case measure =>
          simp [intOf]
          omega
    · have hfin : worthF base 0 l = V := by
        rw [hinv.out, List.drop_eq_nil_of_le (by have := HL.out; omega)]
        rfl
      have HF := Lib.hid hfin
      clear hfin
      have w32 : IntKind.i32.wrap V = V := IntWalk.i32_in _ (by omega)
      go_wp2_with fail
      go_ret
      exact ⟨by rw [HF.out]; rfl, hk⟩
end Go.Proofs.Ytmicmmbdkmmnoaa
