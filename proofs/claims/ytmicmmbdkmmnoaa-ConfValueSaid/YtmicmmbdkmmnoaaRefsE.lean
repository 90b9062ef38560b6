/- Layer 7 at a &: ref: walked. -/
import Derived.Test.YtmicmmbdkmmnoaaRefsW
namespace Go.Proofs.Ytmicmmbdkmmnoaa
open Go.RowKit
attribute [local go_sem ↓] Go.wp_at_zero Go.wp_at_succ

set_option maxHeartbeats 8000000 in
theorem ref_any (A : Option Addr) (n c : Nat) (l : List Int) (a : Nat) (w : World) (h : Sl w 1 A n c (l.map (Value.int .i32))) (hn : n ≤ 1000000) (ha : a < n) (h38 : l[a]? = some 38) :
    Calls Try.prog 71 #[.slice A n c, .int .i64 a] w fun e w' => e = .returned (.agg (tokC l a)) ∧ Kept w w' := by
  have hl := h.llen1
  have ht := refT_tests l a h38
  have hx := runF_le hexB (l.drop (a + 3))
  have hd := runF_le digB (l.drop (a + 2))
  have hk := runF_le nameChar (l.drop (a + 1))
  rw [List.length_drop] at hx hd hk
  have hk2 : leadF (l.drop (a + 1)) ≤ n := by unfold leadF; split <;> omega
  have m2 := drop_min l (a + 2)
  have m3 := drop_min l (a + 3)
  rw [hl] at m2 m3
  unfold tokC
  obtain ⟨X, hX⟩ : ∃ X, runF hexB (l.drop (a + 3)) = X := ⟨_, rfl⟩
  obtain ⟨D, hD⟩ : ∃ D, runF digB (l.drop (a + 2)) = D := ⟨_, rfl⟩
  obtain ⟨K, hK⟩ : ∃ K, leadF (l.drop (a + 1)) = K := ⟨_, rfl⟩
  obtain ⟨b1, hb1⟩ : ∃ b, startsF [38, 35, 120] (l.drop a) = b := ⟨_, rfl⟩
  obtain ⟨b2, hb2⟩ : ∃ b, startsF [38, 35] (l.drop a) = b := ⟨_, rfl⟩
  obtain ⟨e1, he1⟩ : ∃ b, endF l (a + 3) X = b := ⟨_, rfl⟩
  obtain ⟨e2, he2⟩ : ∃ b, endF l (a + 2) D = b := ⟨_, rfl⟩
  obtain ⟨e3, he3⟩ : ∃ b, endF l (a + 1) K = b := ⟨_, rfl⟩
  rw [hX, hD, hK, hb1, hb2, he1, he2, he3] at ht
  have hP := refT_prune l a h38
  rw [hD, hK, hb1, hb2, he2, he3] at hP
  have HP1 := Lib.hid hP.1
  have HP2 := Lib.hid hP.2
  clear hP
  rw [hX] at hx
  rw [hD] at hd
  rw [hK] at hk2
  obtain ⟨T, hT⟩ : ∃ T, refT (l.drop a) = T := ⟨_, rfl⟩
  rw [hT] at ht ⊢
  clear hT hk
  have w1 : IntKind.i64.wrap ((a : Int) + 1) = (a : Int) + 1 := IntWalk.i64_in _ (by omega)
  have w2 : IntKind.i64.wrap ((a : Int) + 2) = (a : Int) + 2 := IntWalk.i64_in _ (by omega)
  have w3 : IntKind.i64.wrap ((a : Int) + 3) = (a : Int) + 3 := IntWalk.i64_in _ (by omega)
  have w4 : IntKind.i64.wrap ((a : Int) + 4) = (a : Int) + 4 := IntWalk.i64_in _ (by omega)
  have y1 : IntKind.i64.wrap ((a : Int) + 4 + X) = (a : Int) + 4 + X := IntWalk.i64_in _ (by omega)
  have y2 : IntKind.i64.wrap ((a : Int) + 3 + D) = (a : Int) + 3 + D := IntWalk.i64_in _ (by omega)
  have y3 : IntKind.i64.wrap ((a : Int) + 2 + K) = (a : Int) + 2 + K := IntWalk.i64_in _ (by omega)
  have run2 : ∀ w', Kept w w' → (a + 2 ≤ n → Calls Try.prog 53 #[.slice A n c, .int .i64 ((a : Int) + 2), .func (.func 83) #[] #[]] w' fun e w'' => e = .returned (.int .i64 D) ∧ Kept w' w'') ∧ (n < a + 2 → Calls Try.prog 53 #[.slice A n c, .int .i64 n, .func (.func 83) #[] #[]] w' fun e w'' => e = .returned (.int .i64 D) ∧ Kept w' w'') := by
    intro w' hk'
    refine ⟨fun hle => ?_, fun hlt => ?_⟩
    · have := run_any 83 digB (enters Try.func83 (by kernel_rfl) (by kernel_rfl)) ldigit_any A n c l (a + 2) w' (h.kept hk') hle
      rw [hD] at this
      exact this
    · have := run_any 83 digB (enters Try.func83 (by kernel_rfl) (by kernel_rfl)) ldigit_any A n c l n w' (h.kept hk') (Nat.le_refl _)
      rw [Nat.min_eq_right (by omega)] at m2
      rw [m2, hD] at this
      exact this
  have run3 : ∀ w', Kept w w' → (a + 3 ≤ n → Calls Try.prog 53 #[.slice A n c, .int .i64 ((a : Int) + 3), .func (.func 84) #[] #[]] w' fun e w'' => e = .returned (.int .i64 X) ∧ Kept w' w'') ∧ (n < a + 3 → Calls Try.prog 53 #[.slice A n c, .int .i64 n, .func (.func 84) #[] #[]] w' fun e w'' => e = .returned (.int .i64 X) ∧ Kept w' w'') := by
    intro w' hk'
    refine ⟨fun hle => ?_, fun hlt => ?_⟩
    · have := run_any 84 hexB (enters Try.func84 (by kernel_rfl) (by kernel_rfl)) lhex_any A n c l (a + 3) w' (h.kept hk') hle
      rw [hX] at this
      exact this
    · have := run_any 84 hexB (enters Try.func84 (by kernel_rfl) (by kernel_rfl)) lhex_any A n c l n w' (h.kept hk') (Nat.le_refl _)
      rw [Nat.min_eq_right (by omega)] at m3
      rw [m3, hX] at this
      exact this
  have lead1 : ∀ w', Kept w w' → Calls Try.prog 81 #[.slice A n c, .int .i64 ((a : Int) + 1)] w' fun e w'' => e = .returned (.int .i64 K) ∧ Kept w' w'' := by
    intro w' hk'
    have := lead_any A n c l ((a : Int) + 1) w' (h.kept hk') (by omega)
    rw [show ((a : Int) + 1).toNat = a + 1 by omega, hK] at this
    exact this
  have st1 : ∀ w', Kept w w' → Calls Try.prog 77 #[.slice A n c, .int .i64 a, .string ⟨#[38, 35, 120]⟩] w' fun e w'' => e = .returned (.bool b1) ∧ Kept w' w'' := by
    intro w' hk'
    have := starts_any A n c l a ⟨#[38, 35, 120]⟩ w' (h.kept hk') (by decide) (by decide) hn (by omega) (by decide)
    rw [show strI ⟨#[38, 35, 120]⟩ = [38, 35, 120] from rfl, hb1] at this
    exact this
  have st2 : ∀ w', Kept w w' → Calls Try.prog 77 #[.slice A n c, .int .i64 a, .string ⟨#[38, 35]⟩] w' fun e w'' => e = .returned (.bool b2) ∧ Kept w' w'' := by
    intro w' hk'
    have := starts_any A n c l a ⟨#[38, 35]⟩ w' (h.kept hk') (by decide) (by decide) hn (by omega) (by decide)
    rw [show strI ⟨#[38, 35]⟩ = [38, 35] from rfl, hb2] at this
    exact this
  have en1 : ∀ w', Kept w w' → Calls Try.prog 85 #[.slice A n c, .int .i64 ((a : Int) + 3), .int .i64 X] w' fun e w'' => e = .returned (.bool e1) ∧ Kept w' w'' := by
    intro w' hk'
    have := ended_any A n c l (a + 3) X w' (h.kept hk') hn (by omega) (by omega)
    rw [he1] at this
    exact this
  have en2 : ∀ w', Kept w w' → Calls Try.prog 85 #[.slice A n c, .int .i64 ((a : Int) + 2), .int .i64 D] w' fun e w'' => e = .returned (.bool e2) ∧ Kept w' w'' := by
    intro w' hk'
    have := ended_any A n c l (a + 2) D w' (h.kept hk') hn (by omega) (by omega)
    rw [he2] at this
    exact this
  have en3 : ∀ w', Kept w w' → Calls Try.prog 85 #[.slice A n c, .int .i64 ((a : Int) + 1), .int .i64 K] w' fun e w'' => e = .returned (.bool e3) ∧ Kept w' w'' := by
    intro w' hk'
    have := ended_any A n c l (a + 1) K w' (h.kept hk') hn (by omega) (by omega)
    rw [he3] at this
    exact this
  have R2 := Lib.hid run2
  have R3 := Lib.hid run3
  have LD := Lib.hid lead1
  have S1 := Lib.hid st1
  have S2 := Lib.hid st2
  have E1 := Lib.hid en1
  have E2 := Lib.hid en2
  have E3 := Lib.hid en3
  clear run2 run3 lead1 st1 st2 en1 en2 en3 hX hD hK hb1 hb2 he1 he2 he3 m2 m3
  have HT := Lib.hid ht
  clear ht
  have hk0 : Kept w (w.alloc (.cells #[.int .i64 0, .int .i64 0, .int .i64 0, .bool false] 119)) := (Kept.refl _).alloc _
  have B0 := Blk.new w #[.int .i64 0, .int .i64 0, .int .i64 0, .bool false] 119
  have hfar : ∀ b < w.heap.size, b ≠ w.heap.size := fun b hb => by omega
  go_enter Try.func71, Try.ntmps71
  go_upto_region 1 with fail
  generalize w.alloc (.cells #[.int .i64 0, .int .i64 0, .int .i64 0, .bool false] 119) = w1 at hk0 B0 ⊢
  go_cut [5] (fun s wx => s = .int .i64 D ∧ Kept w wx ∧ Blk wx w.heap.size #[.int .i64 0, .int .i64 0, .int .i64 0, .bool false] 119)
  case first =>
    focus
      by_cases hB : a + 2 ≤ n
      · have q2 : ((n : Int) < (a : Int) + 2) = False := by simp; omega
        go_wp2_with fail
        refine ((R2.out _ hk0).1 hB).mono ?_
        rintro e w2 ⟨rfl, k2⟩
        go_wp2_with fail
        go_meet
        exact ⟨rfl, hk0.trans k2, B0.kept k2⟩
      · have q2 : ((n : Int) < (a : Int) + 2) = True := by simp; omega
        go_wp2_with fail
        refine ((R2.out _ hk0).2 (by omega)).mono ?_
        rintro e w2 ⟨rfl, k2⟩
        go_wp2_with fail
        go_meet
        exact ⟨rfl, hk0.trans k2, B0.kept k2⟩
  case rest =>
  clear B0 hk0
  obtain ⟨rfl, hk0, B0⟩ := hcut
  go_upto_region 2 with fail
  go_cut [6] (fun s wx => s = .int .i64 X ∧ Kept w wx ∧ Blk wx w.heap.size #[.int .i64 0, .int .i64 0, .int .i64 0, .bool false] 119)
  case first =>
    focus
      by_cases hB : a + 3 ≤ n
      · have q2 : ((n : Int) < (a : Int) + 3) = False := by simp; omega
        go_wp2_with fail
        refine ((R3.out _ hk0).1 hB).mono ?_
        rintro e w2 ⟨rfl, k2⟩
        go_wp2_with fail
        go_meet
        exact ⟨rfl, hk0.trans k2, B0.kept k2⟩
      · have q2 : ((n : Int) < (a : Int) + 3) = True := by simp; omega
        go_wp2_with fail
        refine ((R3.out _ hk0).2 (by omega)).mono ?_
        rintro e w2 ⟨rfl, k2⟩
        go_wp2_with fail
        go_meet
        exact ⟨rfl, hk0.trans k2, B0.kept k2⟩
  case rest =>
  clear B0 hk0
  obtain ⟨rfl, hk3, B3⟩ := hcut
  go_wp2_with fail
  refine (LD.out _ hk3).mono ?_
  rintro e w4 ⟨rfl, k4⟩
  have hk4 := hk3.trans k4
  have B4 := B3.kept k4
  clear k4 B3 hk3
  go_wp2_with fail
  refine (S1.out _ hk4).mono ?_
  rintro e w5 ⟨rfl, k5⟩
  have hk5 := hk4.trans k5
  have B5 := B4.kept k5
  clear k5 B4 hk4
  cases b1
  · go_wp2_with fail
    refine (S2.out _ hk5).mono ?_
    rintro e w6 ⟨rfl, k6⟩
    have hk6 := hk5.trans k6
    have B6 := B5.kept k6
    clear k6 B5 hk5
    cases b2
    · go_wp2_with fail
      refine (E3.out _ hk6).mono ?_
      rintro e w7 ⟨rfl, k7⟩
      have hk7 := hk6.trans k7
      have B7 := B6.kept k7
      clear k7 B6 hk6
      cases e3
      · have f9 := B7.cell
        have g9 := B7.frozen
        go_wp2_with fail
        refine bodyPost_ret (v := .agg #[.int .i64 11, .int .i64 a, .int .i64 ((a : Int) + 1), .bool false]) ?_ rfl ⟨?_, ?_⟩
        · simp [results, Try.results71, go_sem, f9]
        · rw [HT.out]
          simp
          try omega
        · repeat (first | (with_reducible exact hk7) | (with_reducible refine Kept.setCell ?_ (by simp; try omega) _))
      · have f9 := B7.cell
        have g9 := B7.frozen
        go_wp2_with fail
        refine bodyPost_ret (v := .agg #[.int .i64 2, .int .i64 a, .int .i64 ((a : Int) + 2 + K), .bool true]) ?_ rfl ⟨?_, ?_⟩
        · simp [results, Try.results71, go_sem, f9]
        · rw [HT.out]
          simp
          try omega
        · repeat (first | (with_reducible exact hk7) | (with_reducible refine Kept.setCell ?_ (by simp; try omega) _))
    · obtain rfl : e3 = false := HP2.out rfl
      go_wp2_with fail
      refine (E2.out _ hk6).mono ?_
      rintro e w7 ⟨rfl, k7⟩
      have hk7 := hk6.trans k7
      have B7 := B6.kept k7
      clear k7 B6 hk6
      cases e2
      · go_wp2_with fail
        refine (E3.out _ hk7).mono ?_
        rintro e w8 ⟨rfl, k8⟩
        have hk8 := hk7.trans k8
        have B8 := B7.kept k8
        clear k8 B7 hk7
        have f9 := B8.cell
        have g9 := B8.frozen
        go_wp2_with fail
        refine bodyPost_ret (v := .agg #[.int .i64 11, .int .i64 a, .int .i64 ((a : Int) + 1), .bool false]) ?_ rfl ⟨?_, ?_⟩
        · simp [results, Try.results71, go_sem, f9]
        · rw [HT.out]
          simp
          try omega
        · repeat (first | (with_reducible exact hk8) | (with_reducible refine Kept.setCell ?_ (by simp; try omega) _))
      · have f9 := B7.cell
        have g9 := B7.frozen
        go_wp2_with fail
        refine bodyPost_ret (v := .agg #[.int .i64 3, .int .i64 a, .int .i64 ((a : Int) + 3 + D), .bool true]) ?_ rfl ⟨?_, ?_⟩
        · simp [results, Try.results71, go_sem, f9]
        · rw [HT.out]
          simp
          try omega
        · repeat (first | (with_reducible exact hk7) | (with_reducible refine Kept.setCell ?_ (by simp; try omega) _))
  · obtain ⟨rfl, rfl, rfl⟩ := HP1.out rfl
    go_wp2_with fail
    refine (E1.out _ hk5).mono ?_
    rintro e w6 ⟨rfl, k6⟩
    have hk6 := hk5.trans k6
    have B6 := B5.kept k6
    clear k6 B5 hk5
    cases e1
    · go_wp2_with fail
      refine (S2.out _ hk6).mono ?_
      rintro e w7 ⟨rfl, k7⟩
      have hk7 := hk6.trans k7
      have B7 := B6.kept k7
      clear k7 B6 hk6
      go_wp2_with fail
      refine (E2.out _ hk7).mono ?_
      rintro e w8 ⟨rfl, k8⟩
      have hk8 := hk7.trans k8
      have B8 := B7.kept k8
      clear k8 B7 hk7
      go_wp2_with fail
      refine (E3.out _ hk8).mono ?_
      rintro e w9 ⟨rfl, k9⟩
      have hk9 := hk8.trans k9
      have B9 := B8.kept k9
      clear k9 B8 hk8
      have f9 := B9.cell
      have g9 := B9.frozen
      go_wp2_with fail
      refine bodyPost_ret (v := .agg #[.int .i64 11, .int .i64 a, .int .i64 ((a : Int) + 1), .bool false]) ?_ rfl ⟨?_, ?_⟩
      · simp [results, Try.results71, go_sem, f9]
      · rw [HT.out]
        simp
        try omega
      · repeat (first | (with_reducible exact hk9) | (with_reducible refine Kept.setCell ?_ (by simp; try omega) _))
    · have f9 := B6.cell
      have g9 := B6.frozen
      go_wp2_with fail
      refine bodyPost_ret (v := .agg #[.int .i64 3, .int .i64 a, .int .i64 ((a : Int) + 4 + X), .bool true]) ?_ rfl ⟨?_, ?_⟩
      · simp [results, Try.results71, go_sem, f9]
      · rw [HT.out]
        simp
        try omega
      · repeat (first | (with_reducible exact hk6) | (with_reducible refine Kept.setCell ?_ (by simp; try omega) _))
end Go.Proofs.Ytmicmmbdkmmnoaa
