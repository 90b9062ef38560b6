/- What a reference by number means, at any runes: walked; the law RefsNumber. -/
import Derived.Test.YtennpgdoepdboaaLexD
import Derived.Test.YtennpgdoepdboaaRefsM
import Derived.Test.YtennpgdoepdboaaRefsZ
import Derived.Test.YtennpgdoepdboaaRefsA
namespace Go.Proofs.Ytennpgdoepdboaa
open Go.RowKit
attribute [local go_sem ↓] Go.wp_at_zero Go.wp_at_succ

theorem markTk_three (s : List Int) : (markTk s).kind ≠ 3 := by
  unfold markTk
  split
  · unfold upToF; split <;> simp
  split
  · unfold upToF; split <;> simp
  split
  · unfold upToF; split <;> simp
  split
  · simp [dtTk]
  split
  · unfold endTk
    split
    · split <;> simp
    · simp
  split
  · unfold startTk
    split
    · split <;> simp
    · simp
  · simp
theorem nextTk_three {s : List Int} {x : Int} (h : s[0]? = some x) (hx : x ≠ 38) : (nextTk s).kind ≠ 3 := by
  have h' : s.head? = some x := by rw [List.head?_eq_getElem?]; exact h
  unfold nextTk
  rw [h']
  simp only [if_neg hx]
  split
  · exact markTk_three s
  split
  · simp
  · simp
/-- What all of a row means by a number; -1: nothing. -/
def numberA (l : List Int) : Int := if l[0]? = some 38 then numberF l else -1
theorem numberA_cases (l : List Int) : numberA l = -1 ∨ 0 ≤ numberA l := by
  unfold numberA numberF numR
  dsimp only
  (repeat' split) <;> first | (right; exact isChar_num (by assumption)) | (left; rfl)
theorem number_off (A : Option Addr) (n c : Nat) (l : List Int) (w : World) (h : Sl w 1 A n c (l.map (Value.int .i32))) (hn : n ≤ 1000000) (h38 : l[0]? ≠ some 38) :
    Calls Try.prog 14 #[.slice A n c] w fun e w' => e = .returned (.tuple #[.int .i32 0, .bool false]) ∧ Kept w w' := by
  have hcap := h.cap
  have hmax := h.max
  by_cases h0 : 0 < n
  · have hl := h.llen1
    have HN := lnext_any A n c l 0 w h hn h0
    rw [List.drop_zero] at HN
    have hk := nextTk_three (s := l) (x := l[0]'(by omega)) (List.getElem?_eq_getElem _) (fun e => h38 (by rw [List.getElem?_eq_getElem (by omega), e]))
    obtain ⟨⟨tk, tt, tb⟩, hT⟩ : ∃ T, nextTk l = T := ⟨_, rfl⟩
    rw [hT] at HN hk
    dsimp only at hk
    simp only [tkV] at HN
    have d3 : (tk == 3) = false := by simpa using hk
    have HNX := Lib.hid HN
    clear HN hT hl
    go_enter Try.func14, Try.ntmps14
    go_wp2_with fail
    refine HNX.out.mono ?_
    rintro e w1 ⟨rfl, k1⟩
    go_wp2_with fail
    go_ret2
    exact ⟨rfl, k1.alloc _⟩
  · have HNX := Lib.hid (lnext_out A n c 0 w (by omega))
    go_enter Try.func14, Try.ntmps14
    go_wp2_with fail
    refine HNX.out.mono ?_
    rintro e w1 ⟨rfl, k1⟩
    go_wp2_with fail
    go_ret2
    exact ⟨rfl, k1.alloc _⟩
theorem number_all (A : Option Addr) (n c : Nat) (l : List Int) (w : World) (h : Sl w 1 A n c (l.map (Value.int .i32))) (hn : n ≤ 1000000) :
    Calls Try.prog 14 #[.slice A n c] w fun e w' => e = .returned (.tuple #[.int .i32 (if 0 ≤ numberA l then numberA l else 0), .bool (decide (0 ≤ numberA l))]) ∧ Kept w w' := by
  by_cases h38 : l[0]? = some 38
  · unfold numberA
    rw [if_pos h38]
    exact number_any A n c l w h hn h38
  · unfold numberA
    rw [if_neg h38]
    exact number_off A n c l w h hn h38
theorem rnumber_all (A : Option Addr) (n c : Nat) (l : List Int) (w : World) (h : Sl w 1 A n c (l.map (Value.int .i32))) (hn : n ≤ 1000000) (hr : Rn l) :
    Calls Try.prog 15 #[.slice A n c] w fun e w' => e = .returned (.int .i32 (numberA l)) ∧ Kept w w' := by
  by_cases h38 : l[0]? = some 38
  · unfold numberA
    rw [if_pos h38]
    exact rnumber_any A n c l w h hn h38 hr
  · have HV := Lib.hid (show numberA l = -1 by unfold numberA; rw [if_neg h38])
    have hcap := h.cap
    have hmax := h.max
    by_cases h0 : 0 < n
    · obtain ⟨b, o, x, rfl, hx, hc, hb⟩ := h.oneb (k := 0) h0
      have hx38 : (x == 38) = false := by
        rw [hx] at h38
        simpa using h38
      have hc' : w.cell? ⟨b, o, none⟩ = some (.int .i32 x) := hc
      have l1 : ¬ ((n : Int) = 0) := by omega
      have g38 : (x != 38) = true := by simpa using hx38
      clear h38 hx hc
      go_enter Try.func15, Try.ntmps15
      go_wp2_with fail
      go_ret
      exact ⟨ret_int HV.out.symm, Kept.refl _⟩
    · obtain rfl : n = 0 := by omega
      clear h38
      go_enter Try.func15, Try.ntmps15
      go_wp2_with fail
      go_ret
      exact ⟨ret_int HV.out.symm, Kept.refl _⟩
theorem lawNumber_any (A : Option Addr) (n c : Nat) (l : List Int) (w : World) (h : Sl w 1 A n c (l.map (Value.int .i32))) (hr : Rn l) :
    Calls Try.prog 4 #[.slice A n c] w fun e w' => e = .returned (.bool true) ∧ Kept w w' := by
  have HF := Lib.hid (few_any A n c l w h)
  have HRN := Lib.hid (hr.take 100)
  clear hr
  have hm : min n 100 ≤ 100 := Nat.min_le_right _ _
  obtain ⟨m, hM⟩ : ∃ m, min n 100 = m := ⟨_, rfl⟩
  rw [hM] at HF hm
  clear h
  generalize hs : l.take 100 = s at HF HRN
  clear hs hM
  have hKK := numberA_cases s
  obtain ⟨K, hK⟩ : ∃ K, numberA s = K := ⟨_, rfl⟩
  have hc1 := fun A c w' (h : Sl w' 1 A m c (s.map (Value.int .i32))) => number_all A m c s w' h (by omega)
  have hc2 := fun A c w' (h : Sl w' 1 A m c (s.map (Value.int .i32))) => rnumber_all A m c s w' h (by omega) HRN.out
  rw [hK] at hc1 hc2 hKK
  have H2 := Lib.hid hc2
  clear hc2 hK
  rcases hKK with rfl | hKK
  · have h1 : (if (0 : Int) ≤ -1 then (-1 : Int) else 0) = 0 := rfl
    have h2 : decide ((0 : Int) ≤ -1) = false := rfl
    rw [h1, h2] at hc1
    have H1 := Lib.hid hc1
    clear hc1
    go_enter Try.func4, Try.ntmps4
    go_wp2_with fail
    refine HF.out.mono ?_
    rintro e w0 ⟨c', rfl, hS, k0⟩
    go_wp2_with fail
    refine (H1.out _ _ _ hS).mono ?_
    rintro e w1 ⟨rfl, k1⟩
    go_wp2_with fail
    refine (H2.out _ _ _ (hS.kept k1)).mono ?_
    rintro e w2 ⟨rfl, k2⟩
    go_wp2_with fail
    refine (awake_any _).mono ?_
    rintro e w3 ⟨rfl, k3⟩
    go_wp2_with fail
    go_ret
    exact ⟨rfl, ((k0.trans k1).trans k2).trans k3⟩
  · have h1 : (if 0 ≤ K then K else 0) = K := if_pos hKK
    have h2 : decide (0 ≤ K) = true := by simpa using hKK
    rw [h1, h2] at hc1
    clear h1
    have H1 := Lib.hid hc1
    clear hc1
    go_enter Try.func4, Try.ntmps4
    go_wp2_with fail
    refine HF.out.mono ?_
    rintro e w0 ⟨c', rfl, hS, k0⟩
    go_wp2_with fail
    refine (H1.out _ _ _ hS).mono ?_
    rintro e w1 ⟨rfl, k1⟩
    go_wp2_with fail
    refine (H2.out _ _ _ (hS.kept k1)).mono ?_
    rintro e w2 ⟨rfl, k2⟩
    go_wp2_with fail
    refine (awake_any _).mono ?_
    rintro e w3 ⟨rfl, k3⟩
    go_wp2_with fail
    go_ret
    exact ⟨rfl, ((k0.trans k1).trans k2).trans k3⟩
end Go.Proofs.Ytennpgdoepdboaa
