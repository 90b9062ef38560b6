/- Layer 14: sign: walked. -/
import Derived.Test.YtennpgdoepdboaaRefsL
namespace Go.Proofs.Ytennpgdoepdboaa
open Go.RowKit
attribute [local go_sem ↓] Go.wp_at_zero Go.wp_at_succ

set_option maxHeartbeats 8000000 in
theorem sign_any (A : Option Addr) (n c : Nat) (l : List Int) (i : Nat) (q : Int) (w : World) (h : Sl w 1 A n c (l.map (Value.int .i32))) (hn : n ≤ 1000000) (hi : i < n) :
    Calls Try.prog 36 #[.slice A n c, .int .i64 i, .int .i32 q] w fun e w' => e = .returned (.string (strOfNums (signF l i q))) ∧ Kept w w' := by
  have hcap := h.cap
  have hmax := h.max
  obtain ⟨b, o, x, rfl, hx, hc, hb⟩ := h.oneb (k := i) hi
  have hxd : l.getD i 0 = x := by rw [List.getD_eq_getElem?_getD, hx]; rfl
  have hy1 : ∃ y1, l.getD (i - 1) 0 = y1 ∧ (2 ≤ i → w.cell? ⟨b, o + (i - 1), none⟩ = some (.int .i32 y1)) := by
    refine ⟨_, rfl, fun h2 => ?_⟩
    obtain ⟨b', o', x', he, hx', hc', _⟩ := h.oneb (k := i - 1) (by omega)
    injection he with he
    injection he with e1 e2
    subst e1 e2
    rw [hc', List.getD_eq_getElem?_getD, hx']
    rfl
  have hy2 : ∃ y2, l.getD (i - 2) 0 = y2 ∧ (2 ≤ i → w.cell? ⟨b, o + (i - 2), none⟩ = some (.int .i32 y2)) := by
    refine ⟨_, rfl, fun h2 => ?_⟩
    obtain ⟨b', o', x', he, hx', hc', _⟩ := h.oneb (k := i - 2) (by omega)
    injection he with he
    injection he with e1 e2
    subst e1 e2
    rw [hc', List.getD_eq_getElem?_getD, hx']
    rfl
  obtain ⟨y1, hy1, hc1⟩ := hy1
  obtain ⟨y2, hy2, hc2⟩ := hy2
  have l0 : (0 : Int) ≤ i := by omega
  have l1 : (i : Int) < n := by omega
  have HX := Lib.hid hxd
  have HY1 := Lib.hid hy1
  have HY2 := Lib.hid hy2
  obtain ⟨S, hS⟩ : ∃ S, signF l i q = S := ⟨_, rfl⟩
  have hS2 := hS
  unfold signF at hS2
  rw [hxd, hy1, hy2] at hS2
  dsimp only at hS2
  rw [hS]
  have HS := Lib.hid hS2
  clear hS hS2 hx hxd hy1 hy2
  by_cases hgt : x = 62 ∧ 2 ≤ i
  · obtain ⟨rfl, h2⟩ := hgt
    have hc1 := hc1 h2
    have hc2 := hc2 h2
    have d2 : decide ((2 : Int) ≤ i) = true := by simp; omega
    have wm1 : IntKind.i64.wrap ((i : Int) - 1) = ((i - 1 : Nat) : Int) := by rw [IntWalk.i64_in _ (by omega)]; omega
    have wm2 : IntKind.i64.wrap ((i : Int) - 2) = ((i - 2 : Nat) : Int) := by rw [IntWalk.i64_in _ (by omega)]; omega
    have j0 : (0 : Int) ≤ ((i - 1 : Nat) : Int) := by omega
    have j1 : ((i - 1 : Nat) : Int) < n := by omega
    have j2 : (0 : Int) ≤ ((i - 2 : Nat) : Int) := by omega
    have j3 : ((i - 2 : Nat) : Int) < n := by omega
    rcases (show q = 34 ∨ q = 39 ∨ (q ≠ 34 ∧ q ≠ 39) by omega) with rfl | rfl | ⟨hq1, hq2⟩
    rotate_right
    have q1 : (q == 34) = false := by simpa using hq1
    have q2 : (q == 39) = false := by simpa using hq2
    have q3 : ((62 : Int) == q) = ((62 : Int) == q) := rfl
    all_goals
      rcases (show y1 = 93 ∨ y1 ≠ 93 by omega) with rfl | hn1
      · rcases (show y2 = 93 ∨ y2 ≠ 93 by omega) with rfl | hn2
        · have hSS : S = [38, 103, 116, 59] := by rw [← HS.out]; simp [h2]
          subst hSS
          go_enter Try.func36, Try.ntmps36
          go_wp2_with fail
          go_ret
          exact ⟨rfl, Kept.refl _⟩
        · have hSS : S = [] := by rw [← HS.out]; simp [hn2]; try omega
          have t2 : (y2 == 93) = false := by simpa using hn2
          subst hSS
          go_enter Try.func36, Try.ntmps36
          go_wp2_with fail
          go_ret
          exact ⟨rfl, Kept.refl _⟩
      · have hSS : S = [] := by rw [← HS.out]; simp [hn1]; try omega
        have t1 : (y1 == 93) = false := by simpa using hn1
        subst hSS
        go_enter Try.func36, Try.ntmps36
        go_wp2_with fail
        go_ret
        exact ⟨rfl, Kept.refl _⟩
  · have d62 : (x == 62) = true → decide ((2 : Int) ≤ i) = false := by
      intro e
      have : x = 62 := by simpa using e
      simp
      omega
    have e62 : x = 62 → ¬ 2 ≤ i := fun e h => hgt ⟨e, h⟩
    rcases (show q = 34 ∨ q = 39 ∨ (q ≠ 34 ∧ q ≠ 39) by omega) with rfl | rfl | ⟨hq1, hq2⟩
    rotate_right
    have q1 : (q == 34) = false := by simpa using hq1
    have q2 : (q == 39) = false := by simpa using hq2
    all_goals
      rcases (show x = 38 ∨ x = 60 ∨ x = 13 ∨ x = 62 ∨ x = 9 ∨ x = 10 ∨ x = 34 ∨ x = 39 ∨ (x ≠ 38 ∧ x ≠ 60 ∧ x ≠ 13 ∧ x ≠ 62 ∧ x ≠ 9 ∧ x ≠ 10 ∧ x ≠ 34 ∧ x ≠ 39) by omega) with rfl | rfl | rfl | rfl | rfl | rfl | rfl | rfl | ⟨n1, n2, n3, n4, n5, n6, n7, n8⟩
      all_goals
        try have d2 := d62 rfl
        try have d3 := e62 rfl
        try
          have m1 : (x == 38) = false := by simpa using n1
          have m2 : (x == 60) = false := by simpa using n2
          have m3 : (x == 13) = false := by simpa using n3
          have m4 : (x == 62) = false := by simpa using n4
          have m5 : (x == 9) = false := by simpa using n5
          have m6 : (x == 10) = false := by simpa using n6
          have m7 : (x == 34) = false := by simpa using n7
          have m8 : (x == 39) = false := by simpa using n8
        have hs := HS.out
        clear d62 hgt e62
        try clear hc1 hc2
        simp [*] at hs
        subst hs
        go_enter Try.func36, Try.ntmps36
        go_wp2_with fail
        go_ret
        exact ⟨rfl, Kept.refl _⟩
end Go.Proofs.Ytennpgdoepdboaa
