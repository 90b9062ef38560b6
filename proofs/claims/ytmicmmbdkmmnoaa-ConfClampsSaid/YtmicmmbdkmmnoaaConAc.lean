/- The law ConfClamps, walked. -/
import Derived.Test.YtmicmmbdkmmnoaaConAb
import Derived.Test.YtmicmmbdkmmnoaaConU
namespace Go.Proofs.Ytmicmmbdkmmnoaa
open Go.RowKit
attribute [local go_sem ↓] Go.wp_at_zero Go.wp_at_succ

theorem breakF_len (l : Int) : (breakF l).length ≤ 2 := by
  unfold breakF
  (repeat' split) <;> decide
set_option maxRecDepth 100000 in
set_option maxHeartbeats 8000000 in
theorem confClamps_any (c : Cf) (deep : Int) (w : World) : Calls Try.prog 4 #[c.val, .int .i64 deep] w fun e w' => e = .returned (.bool true) ∧ Kept w w' := by
  have HA := Lib.hid (fun w => awake_any w)
  have ho := fun w => ours_any c w
  have hc := fun w => clamp_any c w
  have hr := fun w => rclamp_any c w
  have hcc := fun w => clamp_any (clampF c) w
  have hoo := fun w => ours_any (clampF c) w
  have hb := fun w => break_any c w
  have hrb := fun w => rbreak_any c w
  have hp := fun w => pad_any c deep w
  have hrp := fun w => rpad_any c deep w
  have hdf := fun w => default_any w
  rw [clamp_idem] at hcc
  obtain ⟨c', hc'⟩ : ∃ c', clampF c = c' := ⟨_, rfl⟩
  rw [hc'] at hc hr hcc hoo hb hrb
  clear hc'
  unfold PadOf at hp hrp
  obtain ⟨BL, hBL⟩ : ∃ BL, breakF c'.l = BL := ⟨_, rfl⟩
  obtain ⟨PL, hPL⟩ : ∃ PL, padL c deep = PL := ⟨_, rfl⟩
  obtain ⟨PN, hPN⟩ : ∃ PN, padN c deep = PN := ⟨_, rfl⟩
  obtain ⟨BN, hBN⟩ : ∃ BN, BL.length = BN := ⟨_, rfl⟩
  rw [hBL, hBN] at hb hrb
  rw [hPL, hPN] at hp hrp
  clear hBL hPL hPN hBN
  obtain ⟨ci, cd, cq, ce, cl, ct, cr⟩ := c
  obtain ⟨di, dd, dq, de, dl, dt, dr⟩ := c'
  unfold Cf.val at ho hc hr hcc hoo hb hrb hp hrp hdf ⊢
  dsimp only at ho hc hr hcc hoo hb hrb hp hrp hdf ⊢
  have HO := Lib.hid ho
  have HC := Lib.hid hc
  have HR := Lib.hid hr
  have HCC := Lib.hid hcc
  have HOO := Lib.hid hoo
  have HB := Lib.hid hb
  have HRB := Lib.hid hrb
  have HP := Lib.hid hp
  have HRP := Lib.hid hrp
  have HDF := Lib.hid hdf
  clear ho hc hr hcc hoo hb hrb hp hrp hdf
  have K0 := (Kept.refl w).alloc (.cells #[.int .i64 ci, .int .i64 cd, .int .i64 cq, .int .i64 ce, .int .i64 cl, .bool ct, .bool cr] 27)
  have B0 := Blk.new w #[.int .i64 ci, .int .i64 cd, .int .i64 cq, .int .i64 ce, .int .i64 cl, .bool ct, .bool cr] 27
  go_enter Try.func4, Try.ntmps4
  go_wp2_with fail
  refine (HO.out _).mono ?_
  rintro e w2 ⟨rfl, k2⟩
  go_wp2_with fail
  refine (HC.out _).mono ?_
  rintro e w3 ⟨rfl, k3⟩
  go_upto_region 2 with fail
  have B3 := ((B0.kept k2).kept k3).alloc (.cells #[.int .i64 di, .int .i64 dd, .int .i64 dq, .int .i64 de, .int .i64 dl, .bool dt, .bool dr] 23)
  have B5 := Blk.new w3 #[.int .i64 di, .int .i64 dd, .int .i64 dq, .int .i64 de, .int .i64 dl, .bool dt, .bool dr] 23
  have K5 := ((K0.trans k2).trans k3).alloc (.cells #[.int .i64 di, .int .i64 dd, .int .i64 dq, .int .i64 de, .int .i64 dl, .bool dt, .bool dr] 23)
  generalize w3.alloc (.cells #[.int .i64 di, .int .i64 dd, .int .i64 dq, .int .i64 de, .int .i64 dl, .bool dt, .bool dr] 23) = w5 at B3 B5 K5 ⊢
  obtain ⟨g, hg⟩ : ∃ g, w.heap.size = g := ⟨_, rfl⟩
  obtain ⟨g5, hg5⟩ : ∃ g, w3.heap.size = g := ⟨_, rfl⟩
  rw [hg] at B3 ⊢
  rw [hg5] at B5 ⊢
  clear B0 K0 k2 k3 hg hg5
  have MK : Hid (∀ w', Kept w5 w' → w'.cell? ⟨g, 0, none⟩ = some (.int .i64 ci) ∧ w'.cell? ⟨g, 1, none⟩ = some (.int .i64 cd) ∧ w'.cell? ⟨g, 2, none⟩ = some (.int .i64 cq) ∧ w'.cell? ⟨g, 3, none⟩ = some (.int .i64 ce) ∧ w'.cell? ⟨g, 4, none⟩ = some (.int .i64 cl) ∧ w'.cell? ⟨g, 5, none⟩ = some (.bool ct) ∧ w'.cell? ⟨g, 6, none⟩ = some (.bool cr) ∧
      w'.cell? ⟨g5, 0, none⟩ = some (.int .i64 di) ∧ w'.cell? ⟨g5, 1, none⟩ = some (.int .i64 dd) ∧ w'.cell? ⟨g5, 2, none⟩ = some (.int .i64 dq) ∧ w'.cell? ⟨g5, 3, none⟩ = some (.int .i64 de) ∧ w'.cell? ⟨g5, 4, none⟩ = some (.int .i64 dl) ∧ w'.cell? ⟨g5, 5, none⟩ = some (.bool dt) ∧ w'.cell? ⟨g5, 6, none⟩ = some (.bool dr)) := by
    intro w' kk
    have b1 := (B3.kept kk).cell
    have b2 := (B5.kept kk).cell
    exact ⟨b1 0, b1 1, b1 2, b1 3, b1 4, b1 5, b1 6, b2 0, b2 1, b2 2, b2 3, b2 4, b2 5, b2 6⟩
  have kw : Kept w5 w5.drew := (Kept.refl w5).drew
  clear B3 B5
  go_region_held3 (fun w' => w'.cell? ⟨g, 0, none⟩ = some (.int .i64 ci) ∧ w'.cell? ⟨g, 1, none⟩ = some (.int .i64 cd) ∧ w'.cell? ⟨g, 2, none⟩ = some (.int .i64 cq) ∧ w'.cell? ⟨g, 3, none⟩ = some (.int .i64 ce) ∧ w'.cell? ⟨g, 4, none⟩ = some (.int .i64 cl) ∧ w'.cell? ⟨g, 5, none⟩ = some (.bool ct) ∧ w'.cell? ⟨g, 6, none⟩ = some (.bool cr) ∧
      w'.cell? ⟨g5, 0, none⟩ = some (.int .i64 di) ∧ w'.cell? ⟨g5, 1, none⟩ = some (.int .i64 dd) ∧ w'.cell? ⟨g5, 2, none⟩ = some (.int .i64 dq) ∧ w'.cell? ⟨g5, 3, none⟩ = some (.int .i64 de) ∧ w'.cell? ⟨g5, 4, none⟩ = some (.int .i64 dl) ∧ w'.cell? ⟨g5, 5, none⟩ = some (.bool dt) ∧ w'.cell? ⟨g5, 6, none⟩ = some (.bool dr))
    (first | (with_reducible exact MK.out _ kw))
    (first
    | (go_at_call 9; first
      | ((with_reducible refine (HO.out _).mono ?_); rintro e wn ⟨rfl, kn⟩; have kw := kw.trans kn)
      | ((with_reducible refine (HOO.out _).mono ?_); rintro e wn ⟨rfl, kn⟩; have kw := kw.trans kn))
    | (go_at_call 12; (with_reducible refine (HR.out _).mono ?_); rintro e wn ⟨rfl, kn⟩; have kw := kw.trans kn)
    | (go_at_call 11; (with_reducible refine (HCC.out _).mono ?_); rintro e wn ⟨rfl, kn⟩; have kw := kw.trans kn)
    | (go_at_call 14; (with_reducible refine (HB.out _).mono ?_); rintro e wn ⟨A1, d1, rfl, q1, kn⟩; have kw := kw.trans kn)
    | (go_at_call 15; (with_reducible refine (HRB.out _).mono ?_); rintro e wn ⟨A2, d2, rfl, q2, kn⟩; have q1 := q1.kept kn; have kw := kw.trans kn)
    | (go_at_call 16; (with_reducible refine (HP.out _).mono ?_); rintro e wn ⟨A3, d3, rfl, q3, kn⟩; have kw := kw.trans kn)
    | (go_at_call 17; (with_reducible refine (HRP.out _).mono ?_); rintro e wn ⟨A4, d4, rfl, q4, kn⟩; have q3 := q3.kept kn; have kw := kw.trans kn)
    | (go_at_call 13; first
      | ((with_reducible refine (same_any A1 BN d1 A2 d2 BL _ q1 q2).mono ?_); rintro e wn ⟨rfl, kn⟩; have kw := kw.trans kn)
      | ((with_reducible refine (same_any A3 PN d3 A4 d4 PL _ q3 q4).mono ?_); rintro e wn ⟨rfl, kn⟩; have kw := kw.trans kn))
    | (go_at_call 18; (with_reducible refine (HDF.out _).mono ?_); rintro e wn ⟨rfl, kn⟩; have kw := kw.trans kn)
    | (go_at_call 10; (with_reducible refine (HA.out _).mono ?_); rintro e wn ⟨rfl, kn⟩; have kw := kw.trans kn))
  all_goals
    go_wp2_with fail
    go_ret
    exact ⟨rfl, K5.trans kw⟩
end Go.Proofs.Ytmicmmbdkmmnoaa
