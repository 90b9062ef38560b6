/- The prefix that an attribute's name binds, the program's and the document's: walked. -/
import Derived.Test.YtdlgjbijnhfbhaaScoO
namespace Go.Proofs.Ytdlgjbijnhfbhaa
open Go.RowKit
attribute [local go_sem ↓] Go.wp_at_zero Go.wp_at_succ

def hasX (q : ByteArray) : Bool := decide (6 ≤ q.size) && ((q.extract 0 6).toList == [120, 109, 108, 110, 115, 58])
def declF (q : ByteArray) : Option ByteArray :=
  if eqL q lXmlns then some ⟨#[]⟩ else if hasX q && plainF (q.extract 6 q.size) then some (q.extract 6 q.size) else none
def DeclOf (o : Option ByteArray) (w : World) (e : Ending) (w' : World) : Prop :=
  e = .returned (.tuple #[.string (o.getD ⟨#[]⟩), .bool o.isSome]) ∧ Kept w w'
theorem plain_empty : plainF ⟨#[]⟩ = false := by decide +kernel
theorem hasP_any (q : ByteArray) (w : World) (hq : q.size ≤ 1000000) : Calls Try.prog 48 #[.string q, .string ⟨#[120, 109, 108, 110, 115, 58]⟩] w fun e w' => e = .returned (.bool (hasX q)) ∧ w' = w := by
  by_cases h6 : 6 ≤ q.size
  · have hz : hasX q = ((q.extract 0 6).toList == [120, 109, 108, 110, 115, 58]) := by simp [hasX, h6]
    rw [hz]
    have l1 : (6 : Int) ≤ q.size := by omega
    obtain ⟨z, hzz⟩ : ∃ z, ((q.extract 0 6).toList == [120, 109, 108, 110, 115, 58]) = z := ⟨_, rfl⟩
    rw [hzz]
    clear hz
    cases z
    all_goals
      go_enter Try.func48, Try.ntmps48
      go_wp2_with fail
      go_ret
      exact ⟨rfl, rfl⟩
  · have hz : hasX q = false := by simp [hasX, h6]
    rw [hz]
    have l1 : ¬ (6 : Int) ≤ q.size := by omega
    go_enter Try.func48, Try.ntmps48
    go_wp2_with fail
    go_ret
    exact ⟨rfl, rfl⟩
theorem cutP_any (q : ByteArray) (w : World) (hq : q.size ≤ 1000000) : Calls Try.prog 25 #[.string q, .string ⟨#[120, 109, 108, 110, 115, 58]⟩] w fun e w' => e = .returned (.tuple #[.string (if hasX q then q.extract 6 q.size else q), .bool (hasX q)]) ∧ w' = w := by
  have hc : Calls Try.prog 38 #[.string q, .string ⟨#[120, 109, 108, 110, 115, 58]⟩] w fun e w' => e = .returned (.tuple #[.string (if hasX q then q.extract 6 q.size else q), .bool (hasX q)]) ∧ w' = w := by
    have hp := hasP_any q w hq
    obtain ⟨z, hz⟩ : ∃ z, hasX q = z := ⟨_, rfl⟩
    rw [hz] at hp ⊢
    have l1 : z = true → (6 : Int) ≤ q.size := by
      rintro rfl
      unfold hasX at hz
      simp at hz
      omega
    have HP := Lib.hid hp
    clear hp hz
    cases z
    · go_enter Try.func38, Try.ntmps38
      go_wp2_with fail
      refine HP.out.mono ?_
      rintro e w1 ⟨rfl, rfl⟩
      go_wp2_with fail
      go_ret2
      exact ⟨rfl, rfl⟩
    · have l2 := l1 rfl
      clear l1
      go_enter Try.func38, Try.ntmps38
      go_wp2_with fail
      refine HP.out.mono ?_
      rintro e w1 ⟨rfl, rfl⟩
      go_wp2_with fail
      go_ret2
      exact ⟨rfl, rfl⟩
  obtain ⟨S, hS⟩ : ∃ S, (if hasX q then q.extract 6 q.size else q) = S := ⟨_, rfl⟩
  obtain ⟨z, hz⟩ : ∃ z, hasX q = z := ⟨_, rfl⟩
  rw [hS, hz] at hc
  rw [hS, hz]
  have HC := Lib.hid hc
  clear hc hS hz
  go_enter Try.func25, Try.ntmps25
  go_wp2_with fail
  refine HC.out.mono ?_
  rintro e w1 ⟨rfl, rfl⟩
  go_wp2_with fail
  go_ret2
  exact ⟨rfl, rfl⟩
theorem decl_any (q : ByteArray) (w : World) (hq : q.size ≤ 1000000) : Calls Try.prog 15 #[.string q] w fun e w' => DeclOf (declF q) w e w' := by
  have hD : declF q = if eqL q lXmlns then some ⟨#[]⟩ else if hasX q && plainF (q.extract 6 q.size) then some (q.extract 6 q.size) else none := rfl
  have hc := fun w' => cutP_any q w' hq
  have hp := fun w' => plain_any (q.extract 6 q.size) w' (by rw [ByteArray.size_extract]; omega)
  obtain ⟨S, hS⟩ : ∃ S, q.extract 6 q.size = S := ⟨_, rfl⟩
  obtain ⟨z, hz⟩ : ∃ z, hasX q = z := ⟨_, rfl⟩
  obtain ⟨t, ht⟩ : ∃ t, eqL q lXmlns = t := ⟨_, rfl⟩
  obtain ⟨y, hy⟩ : ∃ y, plainF S = y := ⟨_, rfl⟩
  rw [hS, hz] at hc
  rw [hS, hy] at hp
  rw [hS, hz, ht, hy] at hD
  rw [hD]
  have t1 : (q.toList == [120, 109, 108, 110, 115]) = t := ht
  have HC := Lib.hid hc
  have HP := Lib.hid hp
  clear hD hc hp hS hz ht hy
  unfold DeclOf
  cases t
  · cases z
    · go_enter Try.func15, Try.ntmps15
      go_wp2_with fail
      refine (HC.out _).mono ?_
      rintro e w1 ⟨rfl, rfl⟩
      go_wp2_with fail
      go_ret2
      exact ⟨rfl, Kept.refl _⟩
    · cases y
      all_goals
        go_enter Try.func15, Try.ntmps15
        go_wp2_with fail
        refine (HC.out _).mono ?_
        rintro e w1 ⟨rfl, rfl⟩
        go_wp2_with fail
        refine (HP.out _).mono ?_
        rintro e w2 ⟨rfl, k2⟩
        go_wp2_with fail
        go_ret2
        exact ⟨rfl, k2⟩
  · go_enter Try.func15, Try.ntmps15
    go_wp2_with fail
    go_ret2
    exact ⟨rfl, Kept.refl _⟩
theorem rdecl_any (q : ByteArray) (w : World) (hq : q.size ≤ 1000000) : Calls Try.prog 16 #[.string q] w fun e w' => DeclOf (declF q) w e w' := by
  have hD : declF q = if eqL q lXmlns then some ⟨#[]⟩ else if hasX q && plainF (q.extract 6 q.size) then some (q.extract 6 q.size) else none := rfl
  have hp := fun w' => rplain_any (q.extract 6 q.size) w' (by rw [ByteArray.size_extract]; omega)
  obtain ⟨z, hz⟩ : ∃ z, ((q.extract 0 6).toList == [120, 109, 108, 110, 115, 58]) = z := ⟨_, rfl⟩
  obtain ⟨t, ht⟩ : ∃ t, eqL q lXmlns = t := ⟨_, rfl⟩
  have t1 : (q.toList == [120, 109, 108, 110, 115]) = t := ht
  unfold DeclOf
  cases t
  · by_cases h6 : 6 < q.size
    · have l0 : (6 : Int) < q.size := by omega
      have l1 : (6 : Int) ≤ q.size := by omega
      have hx : hasX q = z := by rw [← hz]; simp [hasX, show 6 ≤ q.size by omega]
      obtain ⟨S, hS⟩ : ∃ S, q.extract 6 q.size = S := ⟨_, rfl⟩
      obtain ⟨y, hy⟩ : ∃ y, plainF S = y := ⟨_, rfl⟩
      rw [hS, hy] at hp
      rw [hS, hx, ht, hy] at hD
      rw [hD]
      have HP := Lib.hid hp
      clear hD hp hx ht hy
      cases z
      · go_enter Try.func16, Try.ntmps16
        go_wp2_with fail
        go_ret2
        exact ⟨rfl, Kept.refl _⟩
      · cases y
        all_goals
          go_enter Try.func16, Try.ntmps16
          go_wp2_with fail
          refine (HP.out _).mono ?_
          rintro e w2 ⟨rfl, k2⟩
          go_wp2_with fail
          go_ret2
          exact ⟨rfl, k2⟩
    · have l0 : ¬ (6 : Int) < q.size := by omega
      have hd : declF q = none := by
        rw [hD, ht]
        by_cases h5 : q.size = 6
        · have : q.extract 6 q.size = ⟨#[]⟩ := by
            have h1 : (q.extract 6 q.size).size = 0 := by rw [ByteArray.size_extract]; omega
            obtain ⟨a, ha⟩ : ∃ a, q.extract 6 q.size = a := ⟨_, rfl⟩
            rw [ha] at h1 ⊢
            apply ByteArray.ext
            exact Array.eq_empty_of_size_eq_zero h1
          rw [this, plain_empty, Bool.and_false]
          rfl
        · have : hasX q = false := by
            unfold hasX
            rw [decide_eq_false (by omega)]
            rfl
          rw [this]
          rfl
      rw [hd]
      clear hD hd hp hz ht
      go_enter Try.func16, Try.ntmps16
      go_wp2_with fail
      go_ret2
      exact ⟨rfl, Kept.refl _⟩
  · rw [hD, ht]
    clear hD hp hz ht
    go_enter Try.func16, Try.ntmps16
    go_wp2_with fail
    go_ret2
    exact ⟨rfl, Kept.refl _⟩
end Go.Proofs.Ytdlgjbijnhfbhaa
