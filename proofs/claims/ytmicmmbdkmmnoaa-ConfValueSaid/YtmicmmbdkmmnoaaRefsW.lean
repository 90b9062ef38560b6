/- Layer 7 at a &: ended, ref, Next, the document's ref and Next: walked. -/
import Derived.Test.YtmicmmbdkmmnoaaStarts
import Derived.Test.YtmicmmbdkmmnoaaBlk
import Derived.Test.YtmicmmbdkmmnoaaRun
import Derived.Test.YtmicmmbdkmmnoaaLeadR
import Derived.Test.YtmicmmbdkmmnoaaClassD
import Derived.Test.YtmicmmbdkmmnoaaRefsP
namespace Go.Proofs.Ytmicmmbdkmmnoaa
open Go.RowKit
attribute [local go_sem ↓] Go.wp_at_zero Go.wp_at_succ

/-- Is there a ; behind so many, and are there some? -/
def endF (l : List Int) (a k : Nat) : Bool := decide (0 < k) && (l[a + k]? == some 59)
theorem ended_any (A : Option Addr) (n c : Nat) (l : List Int) (a k : Nat) (w : World) (h : Sl w 1 A n c (l.map (Value.int .i32))) (_ : n ≤ 1000000) (ha : a ≤ 2000000) (hk : k ≤ 2000000) :
    Calls Try.prog 85 #[.slice A n c, .int .i64 a, .int .i64 k] w fun e w' => e = .returned (.bool (endF l a k)) ∧ Kept w w' := by
  have hcap := h.cap
  have hmax := h.max
  have hl := h.llen1
  have ws : IntKind.i64.wrap ((a : Int) + k) = (a : Int) + k := IntWalk.i64_in _ (by omega)
  by_cases h0 : 0 < k
  · have d0 : decide ((0 : Int) < k) = true := by simpa using h0
    by_cases h1 : a + k < n
    · have d1 : decide ((a : Int) + k < n) = true := by simp; omega
      obtain ⟨b, o, x, rfl, hx, hc, hbb⟩ := h.oneb (k := a + k) h1
      have hE : endF l a k = (x == 59) := by
        unfold endF
        rw [hx]
        simp [h0]
      have l0 : (0 : Int) ≤ (a : Int) + k := by omega
      have l1 : (a : Int) + k < n := by omega
      have lt : ((a : Int) + k).toNat = a + k := by omega
      rw [hE]
      clear hx hE
      go_enter Try.func85, Try.ntmps85
      go_wp2_with fail
      all_goals go_ret
      all_goals exact ⟨rfl, by repeat (first | (with_reducible exact Kept.refl _) | (with_reducible refine Kept.drewN ?_ _) | (with_reducible refine Kept.drew ?_))⟩
    · have d1 : decide ((a : Int) + k < n) = false := by simp; omega
      have hE : endF l a k = false := by
        unfold endF
        rw [List.getElem?_eq_none (by omega)]
        simp
      rw [hE]
      go_enter Try.func85, Try.ntmps85
      go_wp2_with fail
      all_goals go_ret
      all_goals exact ⟨rfl, by repeat (first | (with_reducible exact Kept.refl _) | (with_reducible refine Kept.drewN ?_ _) | (with_reducible refine Kept.drew ?_))⟩
  · have d0 : decide ((0 : Int) < k) = false := by simp; omega
    have hE : endF l a k = false := by
      unfold endF
      simp [h0]
    rw [hE]
    go_enter Try.func85, Try.ntmps85
    go_wp2_with fail
    all_goals go_ret
    all_goals exact ⟨rfl, by repeat (first | (with_reducible exact Kept.refl _) | (with_reducible refine Kept.drewN ?_ _) | (with_reducible refine Kept.drew ?_))⟩
theorem ldigit_any (x : Int) (w : World) : Calls Try.prog 83 #[.int .i32 x] w fun e w' => e = .returned (.bool (digB x)) ∧ Kept w w' := by
  go_enter Try.func83, Try.ntmps83
  go_wp2_with fail
  refine (digit_any _ _).mono ?_
  rintro e w1 ⟨rfl, rfl⟩
  go_wp2_with fail
  go_ret
  exact ⟨rfl, Kept.refl _⟩
theorem hexA_any (r : Int) (w : World) : Calls Try.prog 86 #[.int .i32 r] w fun e w' => e = .returned (.tuple #[.int .i64 (hexV r), .bool (hexB r)]) ∧ w = w' := by
  rcases (show (97 ≤ r ∧ r ≤ 102) ∨ (65 ≤ r ∧ r ≤ 70) ∨ (¬ (97 ≤ r ∧ r ≤ 102) ∧ ¬ (65 ≤ r ∧ r ≤ 70)) by omega) with hc | hc | hc
  · obtain ⟨a, b⟩ := hc
    go_enter Try.func86, Try.ntmps86
    go_wp2
    go_ret2
    exact ⟨ret_pair (by simp [hexV]; omega) (by simp [hexB]; omega), rfl⟩
  · obtain ⟨a, b⟩ := hc
    go_enter Try.func86, Try.ntmps86
    go_wp2
    all_goals go_ret2
    exact ⟨ret_pair (by simp [hexV]; omega) (by simp [hexB]; omega), rfl⟩
  · go_enter Try.func86, Try.ntmps86
    go_wp2_with (go_at_call 95; refine (digit_any _ _).mono ?_; rintro e w' ⟨rfl, rfl⟩)
    all_goals go_ret2
    all_goals exact ⟨ret_pair (by simp [hexV]; omega) (by cases hd : digB r <;> simp [hexB, hd] <;> omega), rfl⟩
theorem lhex_any (x : Int) (w : World) : Calls Try.prog 84 #[.int .i32 x] w fun e w' => e = .returned (.bool (hexB x)) ∧ Kept w w' := by
  go_enter Try.func84, Try.ntmps84
  go_wp2_with fail
  refine (hexA_any _ _).mono ?_
  rintro e w1 ⟨rfl, rfl⟩
  go_wp2_with fail
  go_ret
  exact ⟨rfl, Kept.refl _⟩
/-- What a & begins, by the tests of the program. -/
theorem refT_tests (l : List Int) (a : Nat) (h38 : l[a]? = some 38) :
    refT (l.drop a) = if startsF [38, 35, 120] (l.drop a) && endF l (a + 3) (runF hexB (l.drop (a + 3))) then (3, runF hexB (l.drop (a + 3)) + 4)
      else if startsF [38, 35] (l.drop a) && endF l (a + 2) (runF digB (l.drop (a + 2))) then (3, runF digB (l.drop (a + 2)) + 3)
      else if endF l (a + 1) (leadF (l.drop (a + 1))) then (2, leadF (l.drop (a + 1)) + 2) else (11, 1) := by
  have g : ∀ i, (l.drop a)[i]? = l[a + i]? := fun i => List.getElem?_drop
  have e38 : l.drop a = 38 :: l.drop (a + 1) := drop_get h38
  have ed : ∀ i, (l.drop a).drop i = l.drop (a + i) := fun i => List.drop_drop ..
  unfold refT
  rw [g, g, ed, ed, ed, g, g, g]
  have eN : ∀ i k, (0 < k ∧ l[a + (i + k)]? = some 59) ↔ endF l (a + i) k = true := by
    intro i k
    unfold endF
    rw [← Nat.add_assoc]
    simp
  by_cases h35 : l[a + 1]? = some 35
  · rw [if_pos h35]
    have e35 : l.drop (a + 1) = 35 :: l.drop (a + 1 + 1) := drop_get h35
    have hk : endF l (a + 1) (leadF (l.drop (a + 1))) = false := by
      have : leadF (l.drop (a + 1)) = 0 := by
        rw [e35]
        unfold leadF
        rw [if_neg (by simp; decide)]
      rw [this]
      simp [endF]
    have b2 : startsF [38, 35] (l.drop a) = true := by
      rw [e38, e35]
      rfl
    by_cases h120 : l[a + 2]? = some 120
    · rw [if_pos h120]
      have e120 : l.drop (a + 2) = 120 :: l.drop (a + 2 + 1) := drop_get h120
      have b1 : startsF [38, 35, 120] (l.drop a) = true := by
        rw [e38, e35, show a + 1 + 1 = a + 2 by omega, e120]
        rfl
      have hn : endF l (a + 2) (runF digB (l.drop (a + 2))) = false := by
        have : runF digB (l.drop (a + 2)) = 0 := by
          rw [e120]
          rfl
        rw [this]
        simp [endF]
      rw [b1, b2, hn, hk]
      simp only [Bool.true_and, Bool.and_false]
      by_cases hx : endF l (a + 3) (runF hexB (l.drop (a + 3))) = true
      · rw [if_pos ((eN _ _).2 hx), if_pos hx]
      · rw [if_neg (fun h => hx ((eN _ _).1 h)), if_neg hx]
        rfl
    · rw [if_neg h120]
      have b1 : startsF [38, 35, 120] (l.drop a) = false := by
        rw [e38, e35, show a + 1 + 1 = a + 2 by omega]
        cases hd : l.drop (a + 2) with
        | nil => rfl
        | cons y t =>
          have hy : l[a + 2]? = some y := by
            have := congrArg (fun z => z[0]?) hd
            simpa using this
          have : y ≠ 120 := fun e => h120 (by rw [hy, e])
          rw [startsF_cons, startsF_cons, startsF_cons]
          have h2 : ((120 : Int) == y) = false := by simpa using fun e => this e.symm
          rw [h2]
          rfl
      rw [b1, b2, hk]
      simp only [Bool.true_and, Bool.false_and]
      by_cases hx : endF l (a + 2) (runF digB (l.drop (a + 2))) = true
      · rw [if_pos ((eN _ _).2 hx), if_neg (by simp), if_pos hx]
      · rw [if_neg (fun h => hx ((eN _ _).1 h)), if_neg (by simp), if_neg hx]
        rfl
  · rw [if_neg h35]
    have b2 : ∀ t, startsF (38 :: 35 :: t) (l.drop a) = false := by
      intro t
      rw [e38]
      cases hd : l.drop (a + 1) with
      | nil => rfl
      | cons y s =>
        have hy : l[a + 1]? = some y := by
          have := congrArg (fun z => z[0]?) hd
          simpa using this
        have : y ≠ 35 := fun e => h35 (by rw [hy, e])
        rw [startsF_cons, startsF_cons]
        have h2 : ((35 : Int) == y) = false := by simpa using fun e => this e.symm
        rw [h2]
        rfl
    rw [b2, b2]
    simp only [Bool.false_and]
    by_cases hx : endF l (a + 1) (leadF (l.drop (a + 1))) = true
    · rw [if_pos ((eN _ _).2 hx), if_neg (by simp), if_neg (by simp), if_pos hx]
    · rw [if_neg (fun h => hx ((eN _ _).1 h)), if_neg (by simp), if_neg (by simp), if_neg hx]
theorem refT_prune (l : List Int) (a : Nat) (_ : l[a]? = some 38) :
    (startsF [38, 35, 120] (l.drop a) = true → startsF [38, 35] (l.drop a) = true ∧ endF l (a + 2) (runF digB (l.drop (a + 2))) = false ∧ endF l (a + 1) (leadF (l.drop (a + 1))) = false) ∧
    (startsF [38, 35] (l.drop a) = true → endF l (a + 1) (leadF (l.drop (a + 1))) = false) := by
  have hd1 : (l.drop a).drop 1 = l.drop (a + 1) := List.drop_drop ..
  have hd2 : (l.drop a).drop 2 = l.drop (a + 2) := List.drop_drop ..
  rw [← hd1, ← hd2]
  have g : ∀ t, startsF (38 :: 35 :: t) (l.drop a) = true → startsF [38, 35] (l.drop a) = true ∧ endF l (a + 1) (leadF ((l.drop a).drop 1)) = false := by
    intro t h
    cases hs : l.drop a with
    | nil => rw [hs] at h; cases h
    | cons x s =>
      rw [hs] at h
      cases s with
      | nil =>
        rw [startsF_cons] at h
        simp [startsF] at h
      | cons y s =>
        rw [startsF_cons, startsF_cons, Bool.and_eq_true, Bool.and_eq_true] at h
        have hy : y = 35 := by exact (eq_of_beq h.2.1).symm
        have hx : x = 38 := by exact (eq_of_beq h.1).symm
        subst hy hx
        refine ⟨rfl, ?_⟩
        have : leadF ((38 :: 35 :: s : List Int).drop 1) = 0 := by
          unfold leadF
          rw [if_neg (by simp; decide)]
        rw [this]
        simp [endF]
  refine ⟨fun h => ?_, fun h => (g [] h).2⟩
  obtain ⟨h1, h2⟩ := g [120] h
  refine ⟨h1, ?_, h2⟩
  cases hs : l.drop a with
  | nil => rw [hs] at h; cases h
  | cons x s =>
    rw [hs] at h
    match s, h with
    | [], h => simp [startsF] at h
    | [_], h => simp [startsF] at h
    | y :: z :: s, h =>
      rw [startsF_cons, startsF_cons, startsF_cons, Bool.and_eq_true, Bool.and_eq_true, Bool.and_eq_true] at h
      have hz : z = 120 := by exact (eq_of_beq h.2.2.1).symm
      subst hz
      have : runF digB ((x :: y :: 120 :: s : List Int).drop 2) = 0 := rfl
      rw [this]
      simp [endF]
theorem drop_min (l : List Int) (k : Nat) : l.drop (min k l.length) = l.drop k := by
  rcases Nat.le_total k l.length with h | h
  · rw [Nat.min_eq_left h]
  · rw [Nat.min_eq_right h, List.drop_eq_nil_of_le (Nat.le_refl _), List.drop_eq_nil_of_le h]
def tokC (l : List Int) (a : Nat) : Array Value := #[.int .i64 (refT (l.drop a)).1, .int .i64 a, .int .i64 ((a : Int) + (refT (l.drop a)).2), .bool ((refT (l.drop a)).1 != 11)]
end Go.Proofs.Ytmicmmbdkmmnoaa
