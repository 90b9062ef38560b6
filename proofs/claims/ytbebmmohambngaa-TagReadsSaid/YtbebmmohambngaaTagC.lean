/- The reference's attr of layer 8, walked. -/
import Derived.Test.YtbebmmohambngaaTagB
import Derived.Test.YtbebmmohambngaaTagA
namespace Go.Proofs.Ytbebmmohambngaa
open Go.RowKit
attribute [local go_sem ↓] Go.wp_at_zero Go.wp_at_succ

theorem rattr_no (A : Option Addr) (n c : Nat) (P : List Prt) (k : Nat) (w : World) (h : Sl w 3 A n c (P.flatMap prtC)) (hk : k ≤ n) (hn : n ≤ 1000000) (ha : attrF P k = none) :
    Calls Try.prog 18 #[.slice A n c, .int .i64 k] w fun e w' => e = .returned (.tuple #[.agg #[.int .i64 0, .int .i64 0, .int .i64 0, .int .i64 0, .int .i64 0, .int .i64 0, .int .i64 0, .int .i64 0, .int .i64 0], .int .i64 (-1)]) ∧ Kept w w' := by
  have HK : Kept w (w.alloc (.cells #[.int .i64 0, .int .i64 0, .int .i64 0, .int .i64 0, .int .i64 0, .int .i64 0, .int .i64 0, .int .i64 0, .int .i64 0] 43)) := (Kept.refl _).alloc _
  have hE : eqAt P k ≤ k + 3 := by unfold eqAt skipN; split <;> omega
  have hV : valAt P k ≤ k + 5 := by unfold valAt skipN; split <;> omega
  obtain ⟨E, hEe⟩ : ∃ E, k + 1 + 1 + skipN (P.drop (k + 1 + 1)) = E := ⟨_, rfl⟩
  have hEe2 : eqAt P k = E := hEe
  obtain ⟨V, hVe⟩ : ∃ V, E + 1 + skipN (P.drop (E + 1)) = V := ⟨_, rfl⟩
  have hVe2 : valAt P k = V := by unfold valAt; rw [hEe2]; exact hVe
  rw [hEe2] at hE
  rw [hVe2] at hV
  have HE := Lib.hid hEe
  have HV := Lib.hid hVe
  have HA := Lib.hid ha
  have HE2 := Lib.hid hEe2
  have HV2 := Lib.hid hVe2
  clear hEe hVe ha hEe2 hVe2
  by_cases k3 : kindN P k = 3
  rotate_left
  · have g3 : (kindN P k != 3) = true := by simpa using k3
    go_enter Try.func18, Try.ntmps18
    go_wp2_with fail
    refine (rkind_any A n c P (k) _ (h.kept HK) (by omega)).mono ?_
    rintro e w1 ⟨rfl, rfl⟩
    go_wp2_with fail
    exact bodyPost_ret (v := .tuple #[.agg #[.int .i64 0, .int .i64 0, .int .i64 0, .int .i64 0, .int .i64 0, .int .i64 0, .int .i64 0, .int .i64 0, .int .i64 0], .int .i64 (-1)]) (by simp [results, Try.results18, go_sem]) rfl ⟨rfl, by repeat (first | (with_reducible exact Kept.refl _) | (with_reducible refine Kept.alloc ?_ _))⟩
  have g3 : (kindN P k != 3) = false := by simpa using k3
  by_cases k2 : kindN P (k + 1) = 2
  rotate_left
  · have g2 : (kindN P (k + 1) != 2) = true := by simpa using k2
    clear k3
    go_enter Try.func18, Try.ntmps18
    go_wp2_with fail
    refine (rkind_any A n c P (k) _ (h.kept HK) (by omega)).mono ?_
    rintro e w1 ⟨rfl, rfl⟩
    go_wp2_with fail
    rw [show ((k : Int) + 1) = ((k + 1 : Nat) : Int) by omega]
    refine (rkind_any A n c P (k + 1) _ (h.kept HK) (by omega)).mono ?_
    rintro e w1 ⟨rfl, rfl⟩
    go_wp2_with fail
    exact bodyPost_ret (v := .tuple #[.agg #[.int .i64 0, .int .i64 0, .int .i64 0, .int .i64 0, .int .i64 0, .int .i64 0, .int .i64 0, .int .i64 0, .int .i64 0], .int .i64 (-1)]) (by simp [results, Try.results18, go_sem]) rfl ⟨rfl, by repeat (first | (with_reducible exact Kept.refl _) | (with_reducible refine Kept.alloc ?_ _))⟩
  have g2 : (kindN P (k + 1) != 2) = false := by simpa using k2
  by_cases k4 : kindN P E = 4
  rotate_left
  · have g4 : (kindN P E != 4) = true := by simpa using k4
    clear k3 k2
    go_enter Try.func18, Try.ntmps18
    go_wp2_with fail
    refine (rkind_any A n c P (k) _ (h.kept HK) (by omega)).mono ?_
    rintro e w1 ⟨rfl, rfl⟩
    go_wp2_with fail
    rw [show ((k : Int) + 1) = ((k + 1 : Nat) : Int) by omega]
    refine (rkind_any A n c P (k + 1) _ (h.kept HK) (by omega)).mono ?_
    rintro e w1 ⟨rfl, rfl⟩
    go_wp2_with fail
    rw [show ((k : Int) + 2) = ((k + 1 + 1 : Nat) : Int) by omega]
    refine (rblank_any A n c P (k + 1 + 1) _ (h.kept HK) (by omega)).mono ?_
    rintro e w1 ⟨rfl, rfl⟩
    rw [HE.out]
    go_wp2_with fail
    refine (rkind_any A n c P (E) _ (h.kept HK) (by omega)).mono ?_
    rintro e w1 ⟨rfl, rfl⟩
    go_wp2_with fail
    exact bodyPost_ret (v := .tuple #[.agg #[.int .i64 0, .int .i64 0, .int .i64 0, .int .i64 0, .int .i64 0, .int .i64 0, .int .i64 0, .int .i64 0, .int .i64 0], .int .i64 (-1)]) (by simp [results, Try.results18, go_sem]) rfl ⟨rfl, by repeat (first | (with_reducible exact Kept.refl _) | (with_reducible refine Kept.alloc ?_ _))⟩
  have g4 : (kindN P E != 4) = false := by simpa using k4
  have k5 : kindN P V ≠ 5 := by
    intro k5
    have t3 : takeF [3] (P.drop k) = true := by rw [takeF_kind (by omega)]; simpa using k3
    have t2 : takeF [2] (P.drop (k + 1)) = true := by rw [takeF_kind (by omega)]; simpa using k2
    have t4 : takeF [4] (P.drop (eqAt P k)) = true := by rw [takeF_kind (by omega), HE2.out]; simpa using k4
    have t5 : takeF [5] (P.drop (valAt P k)) = true := by rw [takeF_kind (by omega), HV2.out]; simpa using k5
    obtain ⟨p0, e0, _⟩ := takeF_one t3
    obtain ⟨p1, e1, _⟩ := takeF_one t2
    obtain ⟨v, ev, _⟩ := takeF_one t5
    have := HA.out
    unfold attrF at this
    rw [t3, t2, t4, t5, e0, e1, ev] at this
    simp at this
  have g5 : (kindN P V != 5) = true := by simpa using k5
  clear k3 k2 k4 k5
  go_enter Try.func18, Try.ntmps18
  go_wp2_with fail
  refine (rkind_any A n c P (k) _ (h.kept HK) (by omega)).mono ?_
  rintro e w1 ⟨rfl, rfl⟩
  go_wp2_with fail
  rw [show ((k : Int) + 1) = ((k + 1 : Nat) : Int) by omega]
  refine (rkind_any A n c P (k + 1) _ (h.kept HK) (by omega)).mono ?_
  rintro e w1 ⟨rfl, rfl⟩
  go_wp2_with fail
  rw [show ((k : Int) + 2) = ((k + 1 + 1 : Nat) : Int) by omega]
  refine (rblank_any A n c P (k + 1 + 1) _ (h.kept HK) (by omega)).mono ?_
  rintro e w1 ⟨rfl, rfl⟩
  rw [HE.out]
  go_wp2_with fail
  refine (rkind_any A n c P (E) _ (h.kept HK) (by omega)).mono ?_
  rintro e w1 ⟨rfl, rfl⟩
  go_wp2_with fail
  rw [show ((E : Int) + 1) = ((E + 1 : Nat) : Int) by omega]
  refine (rblank_any A n c P (E + 1) _ (h.kept HK) (by omega)).mono ?_
  rintro e w1 ⟨rfl, rfl⟩
  rw [HV.out]
  go_wp2_with fail
  refine (rkind_any A n c P (V) _ (h.kept HK) (by omega)).mono ?_
  rintro e w1 ⟨rfl, rfl⟩
  go_wp2_with fail
  exact bodyPost_ret (v := .tuple #[.agg #[.int .i64 0, .int .i64 0, .int .i64 0, .int .i64 0, .int .i64 0, .int .i64 0, .int .i64 0, .int .i64 0, .int .i64 0], .int .i64 (-1)]) (by simp [results, Try.results18, go_sem]) rfl ⟨rfl, by repeat (first | (with_reducible exact Kept.refl _) | (with_reducible refine Kept.alloc ?_ _))⟩
set_option maxHeartbeats 1000000 in
theorem rattr_yes (A : Option Addr) (n c : Nat) (P : List Prt) (k : Nat) (w : World) (h : Sl w 3 A n c (P.flatMap prtC)) (hk : k ≤ n) (hn : n ≤ 1000000) (a : Atr) (N : Nat) (ha : attrF P k = some (a, N)) :
    Calls Try.prog 18 #[.slice A n c, .int .i64 k] w fun e w' => e = .returned (.tuple #[.agg (atrC a).toArray, .int .i64 N]) ∧ Kept w w' := by
  have HK : Kept w (w.alloc (.cells #[.int .i64 0, .int .i64 0, .int .i64 0, .int .i64 0, .int .i64 0, .int .i64 0, .int .i64 0, .int .i64 0, .int .i64 0] 43)) := (Kept.refl _).alloc _
  obtain ⟨p0, p1, v, t3, t2, t4, t5, e0, e1, ev, rfl, rfl⟩ := attrF_yes ha
  clear ha
  rw [takeF_kind (by omega)] at t3 t2 t4 t5
  have hcap := h.cap
  have hmax := h.max
  have hE : eqAt P k ≤ k + 3 := by unfold eqAt skipN; split <;> omega
  have hV : valAt P k ≤ k + 5 := by unfold valAt skipN; split <;> omega
  have hl := h.llen (s := 3) (fun _ => rfl) (by omega)
  have hVn : valAt P k < n := by have := (List.getElem?_eq_some_iff.1 ev).1; omega
  have hkV : k + 1 < valAt P k := by unfold valAt eqAt; omega
  obtain ⟨E, hEe⟩ : ∃ E, k + 1 + 1 + skipN (P.drop (k + 1 + 1)) = E := ⟨_, rfl⟩
  have hEe2 : eqAt P k = E := hEe
  obtain ⟨V, hVe⟩ : ∃ V, E + 1 + skipN (P.drop (E + 1)) = V := ⟨_, rfl⟩
  have hVe2 : valAt P k = V := by unfold valAt; rw [hEe2]; exact hVe
  rw [hEe2] at hE t4
  rw [hVe2] at hV t5 ev hVn hkV ⊢
  have HE := Lib.hid hEe
  have HV := Lib.hid hVe
  have g3 : (kindN P k != 3) = false := by simpa using t3
  have g2 : (kindN P (k + 1) != 2) = false := by simpa using t2
  have g4 : (kindN P E != 4) = false := by simpa using t4
  have g5 : (kindN P V != 5) = false := by simpa using t5
  clear t3 t2 t4 t5 hEe hVe hEe2 hVe2 hl
  obtain ⟨b, o, q0, hA0, hq0, hc0, hb⟩ := h.elemb (s := 3) (k := k) (fun _ => rfl) (by omega) (by omega)
  obtain ⟨b1, o1, q1, hA1, hq1, hc1, hb1⟩ := h.elemb (s := 3) (k := k + 1) (fun _ => rfl) (by omega) (by omega)
  obtain ⟨b2, o2, q2, hA2, hq2, hc2, hb2⟩ := h.elemb (s := 3) (k := V) (fun _ => rfl) (by omega) (by omega)
  obtain rfl : p0 = q0 := by rw [e0] at hq0; simpa using hq0
  obtain rfl : p1 = q1 := by rw [e1] at hq1; simpa using hq1
  obtain rfl : v = q2 := by rw [ev] at hq2; simpa using hq2
  subst hA0
  injection hA1 with hA1
  injection hA1 with x1 x2
  injection hA2 with hA2
  injection hA2 with x3 x4
  subst x1 x2 x3 x4
  have a1 : w.cell? ⟨b, o + k * 3 + 1, none⟩ = some (.int .i64 p0.f) := hc0 1 _ rfl
  have n0 : w.cell? ⟨b, o + (k + 1) * 3, none⟩ = some (.int .i64 p1.k) := hc1 0 _ rfl
  have n1 : w.cell? ⟨b, o + (k + 1) * 3 + 1, none⟩ = some (.int .i64 p1.f) := hc1 1 _ rfl
  have n2 : w.cell? ⟨b, o + (k + 1) * 3 + 2, none⟩ = some (.int .i64 p1.t) := hc1 2 _ rfl
  have v0 : w.cell? ⟨b, o + V * 3, none⟩ = some (.int .i64 v.k) := hc2 0 _ rfl
  have v1 : w.cell? ⟨b, o + V * 3 + 1, none⟩ = some (.int .i64 v.f) := hc2 1 _ rfl
  have v2 : w.cell? ⟨b, o + V * 3 + 2, none⟩ = some (.int .i64 v.t) := hc2 2 _ rfl
  clear e0 e1 ev hq0 hq1 hq2 hc0 hc1 hc2
  have r1 : IntKind.i64.wrap ((k : Int) + 1) = (k : Int) + 1 := IntWalk.i64_in _ (by omega)
  have r2 : ((k : Int) + 1).toNat = k + 1 := by omega
  have r3 : (0 : Int) ≤ (k : Int) + 1 := by omega
  have r4 : (k : Int) + 1 < n := by omega
  have r5 : (k : Int) < n := by omega
  have r6 : (V : Int) < n := by omega
  have r7 : IntKind.i64.wrap ((V : Int) + 1) = (V : Int) + 1 := IntWalk.i64_in _ (by omega)
  have y1 : (b = w.heap.size) = False := by simp; omega
  have y1' : (w.heap.size = b) = False := by simp; omega
  go_enter Try.func18, Try.ntmps18
  go_wp2_with fail
  refine (rkind_any _ n c P (k) _ (h.kept HK) (by omega)).mono ?_
  rintro e w1 ⟨rfl, rfl⟩
  go_wp2_with fail
  rw [show ((k : Int) + 1) = ((k + 1 : Nat) : Int) by omega]
  refine (rkind_any _ n c P (k + 1) _ (h.kept HK) (by omega)).mono ?_
  rintro e w1 ⟨rfl, rfl⟩
  go_wp2_with fail
  rw [show ((k : Int) + 2) = ((k + 1 + 1 : Nat) : Int) by omega]
  refine (rblank_any _ n c P (k + 1 + 1) _ (h.kept HK) (by omega)).mono ?_
  rintro e w1 ⟨rfl, rfl⟩
  rw [HE.out]
  go_wp2_with fail
  refine (rkind_any _ n c P (E) _ (h.kept HK) (by omega)).mono ?_
  rintro e w1 ⟨rfl, rfl⟩
  go_wp2_with fail
  rw [show ((E : Int) + 1) = ((E + 1 : Nat) : Int) by omega]
  refine (rblank_any _ n c P (E + 1) _ (h.kept HK) (by omega)).mono ?_
  rintro e w1 ⟨rfl, rfl⟩
  rw [HV.out]
  go_wp2_with fail
  refine (rkind_any _ n c P (V) _ (h.kept HK) (by omega)).mono ?_
  rintro e w1 ⟨rfl, rfl⟩
  go_wp2_with fail
  go_region_held3 (fun w' => w'.cell? ⟨b, o + k * 3 + 1, none⟩ = some (.int .i64 p0.f) ∧ w'.cell? ⟨b, o + (k + 1) * 3, none⟩ = some (.int .i64 p1.k) ∧ w'.cell? ⟨b, o + (k + 1) * 3 + 1, none⟩ = some (.int .i64 p1.f) ∧ w'.cell? ⟨b, o + (k + 1) * 3 + 2, none⟩ = some (.int .i64 p1.t) ∧
    w'.cell? ⟨b, o + V * 3, none⟩ = some (.int .i64 v.k) ∧ w'.cell? ⟨b, o + V * 3 + 1, none⟩ = some (.int .i64 v.f) ∧ w'.cell? ⟨b, o + V * 3 + 2, none⟩ = some (.int .i64 v.t)) (first | go_keep | (refine ⟨?_, ?_, ?_, ?_, ?_, ?_, ?_⟩ <;> simp [go_sem, *])) (fail)
  all_goals go_wp2
  all_goals refine bodyPost_ret (v := .tuple #[.agg (atrC ⟨p1, v, ⟨7, p0.f, v.t⟩⟩).toArray, .int .i64 ((V + 1 : Nat) : Int)]) ?_ rfl ⟨rfl, by repeat (first | (with_reducible exact Kept.refl _) | (with_reducible refine Kept.drew ?_) | (with_reducible refine Kept.alloc ?_ _) | (with_reducible refine Kept.setCell ?_ (Nat.le_refl _) _))⟩
  all_goals simp [results, Try.results18, go_sem, atrC, prtC]
end Go.Proofs.Ytbebmmohambngaa
