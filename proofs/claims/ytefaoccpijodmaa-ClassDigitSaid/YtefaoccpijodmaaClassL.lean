/- The laws of layer 4, walked. -/
import Derived.Test.YtefaoccpijodmaaClassD
namespace Go.Proofs.Ytefaoccpijodmaa
open Go.RowKit

theorem className_any (r : Int) (w : World) : Calls Try.prog 3 #[.int .i32 r] w fun e w' => e = .returned (.bool true) ∧ Kept w w' := by
  go_enter Try.func3, Try.ntmps3
  go_wp2_with fail
  refine (nameStart_any _ _).mono ?_
  rintro e w1 ⟨rfl, k1⟩
  go_wp2_with fail
  refine (rnameStart_any _ _).mono ?_
  rintro e w1 ⟨rfl, rfl⟩
  go_wp2_with fail
  refine (nameChar_any _ _).mono ?_
  rintro e w2 ⟨rfl, k2⟩
  go_wp2_with fail
  refine (rnameChar_any _ _).mono ?_
  rintro e w2 ⟨rfl, rfl⟩
  go_wp2_with fail
  refine (awake_any _).mono ?_
  rintro e w3 ⟨rfl, k3⟩
  go_wp2_with fail
  go_ret
  exact ⟨rfl, (k1.trans k2).trans k3⟩

theorem classChar_any (r : Int) (w : World) : Calls Try.prog 4 #[.int .i32 r] w fun e w' => e = .returned (.bool true) ∧ Kept w w' := by
  go_enter Try.func4, Try.ntmps4
  go_wp2_with fail
  refine (char_any _ _).mono ?_
  rintro e w1 ⟨rfl, k1⟩
  go_wp2_with fail
  refine (rchar_any _ _).mono ?_
  rintro e w1 ⟨rfl, rfl⟩
  go_wp2_with fail
  refine (space_any _ _).mono ?_
  rintro e w1 ⟨rfl, rfl⟩
  go_wp2_with fail
  refine (rspace_any _ _).mono ?_
  rintro e w1 ⟨rfl, rfl⟩
  go_wp2_with fail
  refine (pubid_any _ _).mono ?_
  rintro e w2 ⟨rfl, k2⟩
  go_wp2_with fail
  refine (rpubid_any _ _).mono ?_
  rintro e w3 ⟨rfl, k3⟩
  go_wp2_with fail
  refine (awake_any _).mono ?_
  rintro e w4 ⟨rfl, k4⟩
  go_wp2_with fail
  go_ret
  exact ⟨rfl, ((k1.trans k2).trans k3).trans k4⟩

theorem digit_facts (r : Int) (h0 : -2147483648 ≤ r) (h1 : r ≤ 2147483647) :
    (digB r = true ∧ hexB r = true ∧ digV r = r - 48 ∧ hexV r = r - 48 ∧ rDig r 10 = r - 48 ∧ rDig r 16 = r - 48 ∧ 48 ≤ r ∧ r ≤ 57) ∨
    (digB r = false ∧ hexB r = true ∧ digV r = 0 ∧ (∃ d, hexV r = d ∧ rDig r 16 = d ∧ 10 ≤ d ∧ d ≤ 15) ∧ rDig r 10 = -1) ∨
    (digB r = false ∧ hexB r = false ∧ digV r = 0 ∧ hexV r = 0 ∧ rDig r 10 = -1 ∧ rDig r 16 = -1) := by
  by_cases c1 : 48 ≤ r ∧ r ≤ 57
  · exact .inl (by simp [digB, hexB, digV, hexV, rDig]; omega)
  by_cases c2 : 97 ≤ r ∧ r ≤ 102
  · refine .inr (.inl ⟨by simp [digB]; omega, by simp [hexB]; omega, by simp [digV]; omega, ⟨r - 87, by simp [hexV]; omega, by simp [rDig]; omega, by omega, by omega⟩, by simp [rDig]; omega⟩)
  by_cases c3 : 65 ≤ r ∧ r ≤ 70
  · refine .inr (.inl ⟨by simp [digB]; omega, by simp [hexB]; omega, by simp [digV]; omega, ⟨r - 55, by simp [hexV]; omega, by simp [rDig]; omega, by omega, by omega⟩, by simp [rDig]; omega⟩)
  · refine .inr (.inr ⟨by simp [digB]; omega, by simp [hexB, digB]; omega, by simp [digV]; omega, by simp [hexV, digV]; omega, by simp [rDig]; omega, by simp [rDig]; omega⟩)

theorem classDigit_any (r : Int) (h0 : -2147483648 ≤ r) (h1 : r ≤ 2147483647) (w : World) : Calls Try.prog 6 #[.int .i32 r] w fun e w' => e = .returned (.bool true) ∧ Kept w w' := by
  rcases digit_facts r h0 h1 with ⟨a, b, c, d, e, f, g, h⟩ | ⟨a, b, c, ⟨x, d, e, f, g⟩, h⟩ | ⟨a, b, c, d, e, f⟩
  all_goals
    go_enter Try.func6, Try.ntmps6
    go_wp2_with fail
    refine (digit_any _ _).mono ?_
    rintro e w1 ⟨rfl, rfl⟩
    go_wp2_with fail
    refine (hex_any _ h0 h1 _).mono ?_
    rintro e w1 ⟨rfl, rfl⟩
    go_wp2_with fail
    refine (rdig_any _ _ h0 h1 _).mono ?_
    rintro e w1 ⟨rfl, rfl⟩
    go_wp2_with fail
    refine (rdig_any _ _ h0 h1 _).mono ?_
    rintro e w1 ⟨rfl, rfl⟩
    go_wp2_with fail
    refine (awake_any _).mono ?_
    rintro e w4 ⟨rfl, k4⟩
    go_wp2_with fail
    go_ret
    exact ⟨rfl, k4⟩

theorem start_char {r : Int} (h : nameStart r = true) : nameChar r = true := by simp [nameChar, h]
theorem nchar_char {r : Int} (h : nameChar r = true) : isChar r = true := by
  simp [nameChar, nameStart, nameMore, inSpans, nsSpans, nmSpans, isChar, chSpans] at *; omega
theorem space_char {r : Int} (h : isSpace r = true) : isChar r = true := by
  simp [isSpace, inSpans, isChar, chSpans] at *; omega
theorem space_nchar {r : Int} (h : isSpace r = true) : nameChar r = false := by
  simp [isSpace, nameChar, nameStart, nameMore, inSpans, nsSpans, nmSpans] at *; omega
theorem pubid_char {r : Int} (h : isPubid r = true) : isChar r = true := by
  simp [isPubid, isLetDig, ldSpans, pubSigns, inSpans, isChar, chSpans] at *; omega

theorem within_walk (r : Int) (w : World) (b1 b2 b3 b4 b5 : Bool) (h1 : nameStart r = b1) (h2 : nameChar r = b2) (h3 : isChar r = b3) (h4 : isSpace r = b4) (h5 : isPubid r = b5)
    (hok : (b1 && !b2 || b2 && !b3 || b4 && (!b3 || b2) || b5 && !b3) = false) :
    Calls Try.prog 5 #[.int .i32 r] w fun e w' => e = .returned (.bool true) ∧ Kept w w' := by
  have hK := Kept.refl w
  cases b1 <;> cases b2 <;> cases b3 <;> cases b4 <;> cases b5 <;> first
    | (exfalso; revert hok; decide)
    | (clear hok
       go_enter Try.func5, Try.ntmps5
       go_wp2_with (first
         | (go_at_call 7; refine (nameStart_any _ _).mono ?_; rintro e w' ⟨rfl, hk⟩; replace hK := hK.trans hk; clear hk)
         | (go_at_call 9; refine (nameChar_any _ _).mono ?_; rintro e w' ⟨rfl, hk⟩; replace hK := hK.trans hk; clear hk)
         | (go_at_call 12; refine (char_any _ _).mono ?_; rintro e w' ⟨rfl, hk⟩; replace hK := hK.trans hk; clear hk)
         | (go_at_call 14; refine (space_any _ _).mono ?_; rintro e w' ⟨rfl, rfl⟩)
         | (go_at_call 16; refine (pubid_any _ _).mono ?_; rintro e w' ⟨rfl, hk⟩; replace hK := hK.trans hk; clear hk)
         | (go_at_call 11; refine (awake_any _).mono ?_; rintro e w' ⟨rfl, hk⟩; replace hK := hK.trans hk; clear hk))
       go_ret
       exact ⟨rfl, hK⟩)

theorem classWithin_any (r : Int) (w : World) : Calls Try.prog 5 #[.int .i32 r] w fun e w' => e = .returned (.bool true) ∧ Kept w w' := by
  refine within_walk r w _ _ _ _ _ rfl rfl rfl rfl rfl ?_
  have f1 := @start_char r
  have f2 := @nchar_char r
  have f3 := @space_char r
  have f4 := @space_nchar r
  have f5 := @pubid_char r
  revert f1 f2 f3 f4 f5
  cases nameStart r <;> cases nameChar r <;> cases isChar r <;> cases isSpace r <;> cases isPubid r <;> simp
end Go.Proofs.Ytefaoccpijodmaa
