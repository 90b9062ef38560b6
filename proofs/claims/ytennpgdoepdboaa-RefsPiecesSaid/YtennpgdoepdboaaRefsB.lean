/- Layer 14: the document's Known; the law RefsKnown: walked. -/
import Derived.Test.YtennpgdoepdboaaRefsA
namespace Go.Proofs.Ytennpgdoepdboaa
open Go.RowKit
attribute [local go_sem ↓] Go.wp_at_zero Go.wp_at_succ

theorem beq_sym (a b : List UInt8) : (a == b) = (b == a) := by
  rw [Bool.eq_iff_iff]
  simp only [beq_iff_eq]
  exact ⟨fun e => e.symm, fun e => e.symm⟩
set_option maxHeartbeats 4000000 in
theorem rknown_any (s : ByteArray) (w : World) : Calls Try.prog 21 #[.string s] w fun e w' => e = .returned (.int .i32 (knownF s)) ∧ Kept w w' := by
  obtain ⟨b1, h1⟩ : ∃ b, (s.toList == [108, 116]) = b := ⟨_, rfl⟩
  have c1 : ([108, 116] == s.toList) = b1 := by rw [beq_sym, h1]
  obtain ⟨b2, h2⟩ : ∃ b, (s.toList == [103, 116]) = b := ⟨_, rfl⟩
  have c2 : ([103, 116] == s.toList) = b2 := by rw [beq_sym, h2]
  obtain ⟨b3, h3⟩ : ∃ b, (s.toList == [97, 109, 112]) = b := ⟨_, rfl⟩
  have c3 : ([97, 109, 112] == s.toList) = b3 := by rw [beq_sym, h3]
  obtain ⟨b4, h4⟩ : ∃ b, (s.toList == [97, 112, 111, 115]) = b := ⟨_, rfl⟩
  have c4 : ([97, 112, 111, 115] == s.toList) = b4 := by rw [beq_sym, h4]
  obtain ⟨b5, h5⟩ : ∃ b, (s.toList == [113, 117, 111, 116]) = b := ⟨_, rfl⟩
  have c5 : ([113, 117, 111, 116] == s.toList) = b5 := by rw [beq_sym, h5]
  have hK : knownF s = if b1 = true then 60 else if b2 = true then 62 else if b3 = true then 38 else if b4 = true then 39 else if b5 = true then 34 else -1 := by
    rw [← h1, ← h2, ← h3, ← h4, ← h5, ByteArray.toList_eq]
    rfl
  obtain ⟨K, hKe⟩ : ∃ K, knownF s = K := ⟨_, rfl⟩
  rw [hKe] at hK ⊢
  have HK := Lib.hid hK
  clear hK hKe h1 h2 h3 h4 h5
  have hN0 := Blk.new w #[.string ⟨#[108, 116]⟩, .string ⟨#[103, 116]⟩, .string ⟨#[97, 109, 112]⟩, .string ⟨#[97, 112, 111, 115]⟩, .string ⟨#[113, 117, 111, 116]⟩] 9
  have hk0 := (Kept.refl w).alloc (.cells #[.string ⟨#[108, 116]⟩, .string ⟨#[103, 116]⟩, .string ⟨#[97, 109, 112]⟩, .string ⟨#[97, 112, 111, 115]⟩, .string ⟨#[113, 117, 111, 116]⟩] 9)
  generalize hw1 : w.alloc (.cells #[.string ⟨#[108, 116]⟩, .string ⟨#[103, 116]⟩, .string ⟨#[97, 109, 112]⟩, .string ⟨#[97, 112, 111, 115]⟩, .string ⟨#[113, 117, 111, 116]⟩] 9) = w1 at hN0 hk0
  have hM1 := Blk.new w1 #[.int .i32 60, .int .i32 62, .int .i32 38, .int .i32 39, .int .i32 34] 21
  have hN1 := hN0.alloc (.cells #[.int .i32 60, .int .i32 62, .int .i32 38, .int .i32 39, .int .i32 34] 21)
  have hk1 := hk0.alloc (.cells #[.int .i32 60, .int .i32 62, .int .i32 38, .int .i32 39, .int .i32 34] 21)
  generalize hw2 : w1.alloc (.cells #[.int .i32 60, .int .i32 62, .int .i32 38, .int .i32 39, .int .i32 34] 21) = w2 at hN1 hM1 hk1
  have hsz : w1.heap.size = w.heap.size + 1 := by rw [← hw1]; simp
  rw [hsz] at hM1
  have HW1 := Lib.hid hw1
  have HW2 := Lib.hid hw2
  clear hw1 hw2 hk0
  have hlt := hN0.lt
  go_enter Try.func21, Try.ntmps21
  go_upto_region 3 with fail
  rw [show (World.alloc w (.cells #[.string ⟨#[108, 116]⟩, .string ⟨#[103, 116]⟩, .string ⟨#[97, 109, 112]⟩, .string ⟨#[97, 112, 111, 115]⟩, .string ⟨#[113, 117, 111, 116]⟩] 9)) = w1 from HW1.out]
  rw [show (World.alloc w1 (.cells #[.int .i32 60, .int .i32 62, .int .i32 38, .int .i32 39, .int .i32 34] 21)) = w2 from HW2.out]
  have hN1c := hN1.cell
  have hM1c := hM1.cell
  go_wp2_with fail
  go_loopw [11] (fun u wr => ∃ k : Nat, k ≤ 5 ∧ u = .int .i64 k ∧ Kept w2 wr ∧ Hid ((1 ≤ k → b1 = false) ∧ (2 ≤ k → b2 = false) ∧ (3 ≤ k → b3 = false) ∧ (4 ≤ k → b4 = false) ∧ (5 ≤ k → b5 = false))) (fun u _ => 5 - (intOf u).toNat)
  case atStart => exact ⟨0, by omega, rfl, Kept.refl _, ⟨fun h => absurd h (by omega), fun h => absurd h (by omega), fun h => absurd h (by omega), fun h => absurd h (by omega), fun h => absurd h (by omega)⟩⟩
  case round =>
    obtain ⟨k, hk5, rfl, hk, hinv⟩ := hrel
    rcases (show k = 0 ∨ k = 1 ∨ k = 2 ∨ k = 3 ∨ k = 4 ∨ k = 5 by omega) with rfl | rfl | rfl | rfl | rfl | rfl
    · have hn := (hk.cell (hN1c 0)).trans rfl
      have hm := (hk.cell (hM1c 0)).trans rfl
      cases b1
      · go_wp2_with fail
        go_roundw
        case rel => exact ⟨1, by omega, rfl, hk, by refine ⟨?_, ?_, ?_, ?_, ?_⟩ <;> intro h <;> first | rfl | trivial | (exact absurd h (by omega))⟩
        case measure => simp [intOf]
      · go_wp2_with fail
        go_ret
        exact ⟨by rw [HK.out]; rfl, hk1.trans hk⟩
    · have hn := (hk.cell (hN1c 1)).trans rfl
      have hm := (hk.cell (hM1c 1)).trans rfl
      obtain rfl : b1 = false := hinv.out.1 (by omega)
      cases b2
      · go_wp2_with fail
        go_roundw
        case rel => exact ⟨2, by omega, rfl, hk, by refine ⟨?_, ?_, ?_, ?_, ?_⟩ <;> intro h <;> first | rfl | trivial | (exact absurd h (by omega))⟩
        case measure => simp [intOf]
      · go_wp2_with fail
        go_ret
        exact ⟨by rw [HK.out]; rfl, hk1.trans hk⟩
    · have hn := (hk.cell (hN1c 2)).trans rfl
      have hm := (hk.cell (hM1c 2)).trans rfl
      obtain rfl : b1 = false := hinv.out.1 (by omega)
      obtain rfl : b2 = false := hinv.out.2.1 (by omega)
      cases b3
      · go_wp2_with fail
        go_roundw
        case rel => exact ⟨3, by omega, rfl, hk, by refine ⟨?_, ?_, ?_, ?_, ?_⟩ <;> intro h <;> first | rfl | trivial | (exact absurd h (by omega))⟩
        case measure => simp [intOf]
      · go_wp2_with fail
        go_ret
        exact ⟨by rw [HK.out]; rfl, hk1.trans hk⟩
    · have hn := (hk.cell (hN1c 3)).trans rfl
      have hm := (hk.cell (hM1c 3)).trans rfl
      obtain rfl : b1 = false := hinv.out.1 (by omega)
      obtain rfl : b2 = false := hinv.out.2.1 (by omega)
      obtain rfl : b3 = false := hinv.out.2.2.1 (by omega)
      cases b4
      · go_wp2_with fail
        go_roundw
        case rel => exact ⟨4, by omega, rfl, hk, by refine ⟨?_, ?_, ?_, ?_, ?_⟩ <;> intro h <;> first | rfl | trivial | (exact absurd h (by omega))⟩
        case measure => simp [intOf]
      · go_wp2_with fail
        go_ret
        exact ⟨by rw [HK.out]; rfl, hk1.trans hk⟩
    · have hn := (hk.cell (hN1c 4)).trans rfl
      have hm := (hk.cell (hM1c 4)).trans rfl
      obtain rfl : b1 = false := hinv.out.1 (by omega)
      obtain rfl : b2 = false := hinv.out.2.1 (by omega)
      obtain rfl : b3 = false := hinv.out.2.2.1 (by omega)
      obtain rfl : b4 = false := hinv.out.2.2.2.1 (by omega)
      cases b5
      · go_wp2_with fail
        go_roundw
        case rel => exact ⟨5, by omega, rfl, hk, by refine ⟨?_, ?_, ?_, ?_, ?_⟩ <;> intro h <;> first | rfl | trivial | (exact absurd h (by omega))⟩
        case measure => simp [intOf]
      · go_wp2_with fail
        go_ret
        exact ⟨by rw [HK.out]; rfl, hk1.trans hk⟩
    · obtain ⟨e1, e2, e3, e4, e5⟩ := hinv.out
      obtain rfl := e1 (by omega)
      obtain rfl := e2 (by omega)
      obtain rfl := e3 (by omega)
      obtain rfl := e4 (by omega)
      obtain rfl := e5 (by omega)
      clear e1 e2 e3 e4 e5
      go_wp2_with fail
      go_ret
      exact ⟨by rw [HK.out]; rfl, hk1.trans hk⟩
theorem lawKnown_any (s : ByteArray) (w : World) : Calls Try.prog 7 #[.string s] w fun e w' => e = .returned (.bool true) ∧ Kept w w' := by
  obtain ⟨K, hK⟩ : ∃ K, knownF s = K := ⟨_, rfl⟩
  have hKK : knownF s = -1 ∨ 0 ≤ knownF s := by
    unfold knownF
    (repeat' split) <;> first | (right; omega) | (left; rfl)
  have hc1 := fun w' => known_any s w'
  have hc2 := fun w' => rknown_any s w'
  rw [hK] at hc1 hc2 hKK
  have H1 := Lib.hid hc1
  have H2 := Lib.hid hc2
  clear hc1 hc2 hK
  rcases hKK with rfl | hKK
  · have h1 : (if (0 : Int) ≤ -1 then (-1 : Int) else 0) = 0 := rfl
    have h2 : decide ((0 : Int) ≤ -1) = false := rfl
    have hc1 := H1.out
    rw [h1, h2] at hc1
    clear H1
    have H1 := Lib.hid hc1
    clear hc1
    go_enter Try.func7, Try.ntmps7
    go_wp2_with fail
    refine (H1.out _).mono ?_
    rintro e w1 ⟨rfl, rfl⟩
    go_wp2_with fail
    refine (H2.out _).mono ?_
    rintro e w2 ⟨rfl, k2⟩
    go_wp2_with fail
    refine (awake_any _).mono ?_
    rintro e w3 ⟨rfl, k3⟩
    go_wp2_with fail
    go_ret
    exact ⟨rfl, k2.trans k3⟩
  · have h1 : (if 0 ≤ K then K else 0) = K := if_pos hKK
    have h2 : decide (0 ≤ K) = true := by simpa using hKK
    have hc1 := H1.out
    rw [h1, h2] at hc1
    clear H1 h1
    have H1 := Lib.hid hc1
    clear hc1
    go_enter Try.func7, Try.ntmps7
    go_wp2_with fail
    refine (H1.out _).mono ?_
    rintro e w1 ⟨rfl, rfl⟩
    go_wp2_with fail
    refine (H2.out _).mono ?_
    rintro e w2 ⟨rfl, k2⟩
    go_wp2_with fail
    refine (awake_any _).mono ?_
    rintro e w3 ⟨rfl, k3⟩
    go_wp2_with fail
    go_ret
    exact ⟨rfl, k2.trans k3⟩
end Go.Proofs.Ytennpgdoepdboaa
