/- What stands ahead of a line: both Pads, walked. -/
import Derived.Test.YtmicmmbdkmmnoaaConAa
namespace Go.Proofs.Ytmicmmbdkmmnoaa
open Go.RowKit
attribute [local go_sem ↓] Go.wp_at_zero Go.wp_at_succ

/-- How many runes stand ahead, and which. -/
def padN (c : Cf) (deep : Int) : Nat := if c.t then (near deep 0 200).toNat else (near deep 0 200 * near c.i 0 8).toNat
def padR (c : Cf) : Int := if c.t then 9 else 32
def padL (c : Cf) (deep : Int) : List Int := List.replicate (padN c deep) (padR c)
theorem padN_len (c : Cf) (deep : Int) : (padL c deep).length = padN c deep := List.length_replicate
def PadOf (c : Cf) (deep : Int) (w : World) (e : Ending) (w' : World) : Prop :=
  ∃ A' c', e = .returned (.slice A' (padN c deep) c') ∧ Sl w' 1 A' (padN c deep) c' ((padL c deep).map (Value.int .i32)) ∧ Kept w w'
theorem near_nat (n lo hi : Int) (h0 : 0 ≤ lo) (h : lo ≤ hi) : ∃ m : Nat, near n lo hi = (m : Int) ∧ (m : Int) ≤ hi := by
  have := near_bd n lo hi h
  exact ⟨(near n lo hi).toNat, by omega, by omega⟩
theorem mul_bd {a b : Nat} (ha : a ≤ 200) (hb : b ≤ 8) : a * b ≤ 1600 := Nat.mul_le_mul ha hb
set_option maxHeartbeats 2000000 in
theorem pad_any (c : Cf) (deep : Int) (w : World) : Calls Try.prog 16 #[c.val, .int .i64 deep] w fun e w' => PadOf c deep w e w' := by
  have hc := fun w => clamp_any c w
  obtain ⟨c', hc'⟩ : ∃ c', clampF c = c' := ⟨_, rfl⟩
  have hci : c'.i = near c.i 0 8 := by rw [← hc']; rfl
  rw [hc'] at hc
  have HC := Lib.hid hc
  clear hc' hc
  obtain ⟨D, hD, hD2⟩ := near_nat deep 0 200 (by omega) (by omega)
  obtain ⟨I, hI, hI2⟩ := near_nat c.i 0 8 (by omega) (by omega)
  have HN : Hid (padN c deep = if c.t then D else D * I) := by
    unfold Hid padN
    rw [hD, hI]
    split
    · rfl
    · rw [← Int.natCast_mul]
      rfl
  have HR : Hid (padR c = if c.t then 9 else 32) := rfl
  have hw := fun w => within_any deep 0 200 (by omega) w
  rw [hD] at hw
  have HW := Lib.hid hw
  have HL : Hid (padL c deep = List.replicate (padN c deep) (padR c)) := rfl
  have hdi := mul_bd (a := D) (b := I) (by omega) (by omega)
  unfold PadOf
  obtain ⟨N, hN⟩ : ∃ N, padN c deep = N := ⟨_, rfl⟩
  obtain ⟨L, hL⟩ : ∃ L, padL c deep = L := ⟨_, rfl⟩
  obtain ⟨R, hR⟩ : ∃ R, padR c = R := ⟨_, rfl⟩
  rw [hN, hL, hR] at HL
  rw [hN] at HN
  rw [hR] at HR
  rw [hN, hL]
  clear hN hL hR hw hD
  obtain ⟨ci, cd, cq, ce, cl, ct, cr⟩ := c
  obtain ⟨di, dd, dq, de, dl, dt, dr⟩ := c'
  dsimp only at hci hI HN HR
  rw [hI] at hci
  subst hci
  clear hI
  unfold Cf.val at HC ⊢
  dsimp only at HC ⊢
  have hfd : ∀ w : World, (Instr.field 23 (.agg #[.int .i64 (I : Int), .int .i64 dd, .int .i64 dq, .int .i64 de, .int .i64 dl, .bool dt, .bool dr]) 0).run Try.prog w = .ok (.int .i64 (I : Int)) w := fun _ => by kernel_rfl
  cases ct
  · obtain rfl : N = D * I := HN.out
    obtain rfl : R = 32 := HR.out
    have hmul : IntKind.i64.wrap ((D : Int) * I) = ((D * I : Nat) : Int) := by
      rw [← Int.natCast_mul]
      exact IntWalk.i64_in _ (by omega)
    obtain ⟨Z, hZ⟩ : ∃ Z, D * I = Z := ⟨_, rfl⟩
    rw [hZ] at hmul hdi HL ⊢
    clear hZ HN HR
    go_enter Try.func16, Try.ntmps16
    go_wp2_with fail
    refine (HW.out _).mono ?_
    rintro e w2 ⟨rfl, rfl⟩
    go_wp2_with fail
    refine (HC.out _).mono ?_
    rintro e w3 ⟨rfl, k3⟩
    go_wp2_with fail
    have hS0 : Sl ((w.alloc (.cells #[.int .i64 ci, .int .i64 cd, .int .i64 cq, .int .i64 ce, .int .i64 cl, .bool false, .bool cr] 23)).alloc (.cells #[.int .i32 32] 21)) 1 (some ⟨w.heap.size + 1, 0, none⟩) 1 1 [.int .i32 32] := Sl.litg (by simp) rfl (by omega)
    have K0 := ((Kept.refl w).alloc (.cells #[.int .i64 ci, .int .i64 cd, .int .i64 cq, .int .i64 ce, .int .i64 cl, .bool false, .bool cr] 23)).alloc (.cells #[.int .i32 32] 21)
    refine (repeat_any _ 1 32 Z (by omega) w3 (hS0.kept k3)).mono ?_
    rintro e w4 ⟨A', c', rfl, hS, k4⟩
    go_wp2_with fail
    go_ret
    exact ⟨A', c', rfl, by rw [HL.out]; exact hS, (K0.trans k3).trans k4⟩
  · obtain rfl : N = D := HN.out
    obtain rfl : R = 9 := HR.out
    clear HN HR
    go_enter Try.func16, Try.ntmps16
    go_wp2_with fail
    refine (HW.out _).mono ?_
    rintro e w2 ⟨rfl, rfl⟩
    go_wp2_with fail
    have hS0 : Sl ((w.alloc (.cells #[.int .i64 ci, .int .i64 cd, .int .i64 cq, .int .i64 ce, .int .i64 cl, .bool true, .bool cr] 23)).alloc (.cells #[.int .i32 9] 21)) 1 (some ⟨w.heap.size + 1, 0, none⟩) 1 1 [.int .i32 9] := Sl.litg (by simp) rfl (by omega)
    have K0 := ((Kept.refl w).alloc (.cells #[.int .i64 ci, .int .i64 cd, .int .i64 cq, .int .i64 ce, .int .i64 cl, .bool true, .bool cr] 23)).alloc (.cells #[.int .i32 9] 21)
    refine (repeat_any _ 1 9 N (by omega) _ hS0).mono ?_
    rintro e w4 ⟨A', c', rfl, hS, k4⟩
    go_wp2_with fail
    go_ret
    exact ⟨A', c', rfl, by rw [HL.out]; exact hS, K0.trans k4⟩
theorem rep_snoc {α : Type} (m : Nat) (a : α) : List.replicate (m + 1) a = List.replicate m a ++ [a] := List.replicate_succ'
set_option maxHeartbeats 4000000 in
theorem rpad_any (c : Cf) (deep : Int) (w : World) : Calls Try.prog 17 #[c.val, .int .i64 deep] w fun e w' => PadOf c deep w e w' := by
  have hc := fun w => rclamp_any c w
  obtain ⟨c', hc'⟩ : ∃ c', clampF c = c' := ⟨_, rfl⟩
  have hci : c'.i = near c.i 0 8 := by rw [← hc']; rfl
  rw [hc'] at hc
  have HC := Lib.hid hc
  clear hc' hc
  obtain ⟨D, hD, hD2⟩ := near_nat deep 0 200 (by omega) (by omega)
  obtain ⟨I, hI, hI2⟩ := near_nat c.i 0 8 (by omega) (by omega)
  have HN : Hid (padN c deep = if c.t then D else D * I) := by
    unfold Hid padN
    rw [hD, hI]
    split
    · rfl
    · rw [← Int.natCast_mul]
      rfl
  have HR : Hid (padR c = if c.t then 9 else 32) := rfl
  have hw := fun w => near_any deep 0 200 w
  rw [hD] at hw
  have HW := Lib.hid hw
  have HL : Hid (padL c deep = List.replicate (padN c deep) (padR c)) := rfl
  have hdi := mul_bd (a := D) (b := I) (by omega) (by omega)
  unfold PadOf
  obtain ⟨N, hN⟩ : ∃ N, padN c deep = N := ⟨_, rfl⟩
  obtain ⟨L, hL⟩ : ∃ L, padL c deep = L := ⟨_, rfl⟩
  obtain ⟨R, hR⟩ : ∃ R, padR c = R := ⟨_, rfl⟩
  rw [hN, hL, hR] at HL
  rw [hN] at HN
  rw [hR] at HR
  rw [hN, hL]
  clear hN hL hR hw hD
  obtain ⟨ci, cd, cq, ce, cl, ct, cr⟩ := c
  obtain ⟨di, dd, dq, de, dl, dt, dr⟩ := c'
  dsimp only at hci hI HN HR
  rw [hI] at hci
  subst hci
  clear hI
  unfold Cf.val at HC ⊢
  dsimp only at HC ⊢
  have hfd : ∀ w : World, (Instr.field 27 (.agg #[.int .i64 (I : Int), .int .i64 dd, .int .i64 dq, .int .i64 de, .int .i64 dl, .bool dt, .bool dr]) 0).run Try.prog w = .ok (.int .i64 (I : Int)) w := fun _ => by kernel_rfl
  have HMU : Hid (IntKind.i64.wrap ((D : Int) * I) = ((D * I : Nat) : Int)) := by
    unfold Hid
    rw [← Int.natCast_mul]
    exact IntWalk.i64_in _ (by omega)
  have K0 := (Kept.refl w).alloc (.cells #[.int .i64 ci, .int .i64 cd, .int .i64 cq, .int .i64 ce, .int .i64 cl, .bool ct, .bool cr] 27)
  have B0 := Blk.new w #[.int .i64 ci, .int .i64 cd, .int .i64 cq, .int .i64 ce, .int .i64 cl, .bool ct, .bool cr] 27
  have hNb : N ≤ 1600 := by
    have := HN.out
    cases ct
    · have h2 : N = D * I := this
      omega
    · have h2 : N = D := this
      omega
  go_enter Try.func17, Try.ntmps17
  go_wp2_with fail
  refine (HW.out _).mono ?_
  rintro e w2 ⟨rfl, rfl⟩
  generalize w.alloc (.cells #[.int .i64 ci, .int .i64 cd, .int .i64 cq, .int .i64 ce, .int .i64 cl, .bool ct, .bool cr] 27) = w1 at K0 B0 ⊢
  obtain ⟨g, hg⟩ : ∃ g, w.heap.size = g := ⟨_, rfl⟩
  have hWg : w.heap.size ≤ g := Nat.le_of_eq hg
  rw [hg] at B0 ⊢
  have bc := B0.cell
  go_upto_if 13 with fail
  go_cut [5, 6] (fun s5 s6 wx => s5 = .int .i64 (N : Int) ∧ s6 = .int .i32 R ∧ Kept w wx)
  case first =>
    cases ct
    · obtain rfl : N = D * I := HN.out
      obtain rfl : R = 32 := HR.out
      have hmul := HMU.out
      obtain ⟨Z, hZ⟩ : ∃ Z, D * I = Z := ⟨_, rfl⟩
      have HZ := Lib.hid hZ
      rw [hZ] at hmul
      clear hZ HN HR HMU hNb hdi HL
      go_wp2_with fail
      refine (HC.out _).mono ?_
      rintro e w3 ⟨rfl, k3⟩
      go_wp2_with fail
      go_meet
      exact ⟨by rw [HZ.out], rfl, K0.trans k3⟩
    · obtain rfl : N = D := HN.out
      obtain rfl : R = 9 := HR.out
      clear HN HR
      go_wp2_with fail
      go_meet
      exact ⟨rfl, rfl, K0⟩
  case rest =>
    obtain ⟨rfl, rfl, kw⟩ := hcut
    obtain ⟨w2, hw2⟩ : ∃ z, z = wc := ⟨_, rfl⟩
    subst hw2
    clear bc B0 K0 HC HMU hfd HN HR
    have HK := Lib.hid kw
    go_wp2_with fail
    go_loopw [7, 8] (fun v i wr => ∃ m : Nat, m ≤ N ∧ i = .int .i64 m ∧ wr.ownsRow w.heap.size 21 1 v m ((List.replicate m R).map (Value.int .i32)) ∧ Kept w wr) (fun _ i _ => N - (intOf i).toNat)
    case atStart => exact ⟨0, Nat.zero_le _, rfl, World.ownsRow_nil _ _ _ _, HK.out⟩
    case round =>
      obtain ⟨m, hm, rfl, hown, hk⟩ := hrel
      by_cases hlt : m < N
      · have l1 : (m : Int) < N := by omega
        go_wp2_with (at_builtin; refine wpList_push w (by rfl) _ _ (by rfl) appT_run (by rfl) hown hk (by rfl) ?_ ?_; (exact ⟨rfl, rfl, rfl, by omega⟩); intro v' w' hown' hk' _ _)
        go_roundw
        case rel => exact ⟨m + 1, hlt, by go_num, by rw [rep_snoc, List.map_append]; exact hown', hk'⟩
        case measure =>
          simp [intOf]
          omega
      · obtain rfl : m = N := by omega
        obtain ⟨A', c', rfl, hS⟩ := Sl.of_own hown
        have HLL := HL.out
        go_wp2_with fail
        go_ret
        exact ⟨A', c', rfl, by rw [HL.out]; exact hS, hk⟩
end Go.Proofs.Ytmicmmbdkmmnoaa
