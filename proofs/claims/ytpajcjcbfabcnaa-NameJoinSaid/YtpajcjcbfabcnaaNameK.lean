/- The law NameJoin, walked. -/
import Derived.Test.YtpajcjcbfabcnaaNameS
namespace Go.Proofs.Ytpajcjcbfabcnaa
open Go.RowKit
attribute [local go_sem ↓] Go.wp_at_zero Go.wp_at_succ

theorem tl_refl (a : ByteArray) : (a.toList == a.toList) = true := by simp
theorem tl_ne (a : ByteArray) : (a.toList != a.toList) = false := by simp
theorem lawJoin_any (p0 l0 : ByteArray) (w : World) : Calls Try.prog 7 #[.string p0, .string l0] w fun e w' => e = .returned (.bool true) ∧ Kept w w' := by
  have hz1 := shortF_size p0
  have hz2 := shortF_size l0
  obtain ⟨p, hp⟩ : ∃ p, shortF p0 = p := ⟨_, rfl⟩
  obtain ⟨l, hl⟩ : ∃ l, shortF l0 = l := ⟨_, rfl⟩
  rw [hp] at hz1
  rw [hl] at hz2
  have hs1 : p.size ≤ 1000000 := by omega
  have hs2 : l.size ≤ 1000000 := by omega
  have hjs := join_split (p := p) (l := l)
  have hsz : (joinF p l).size ≤ 1000000 := by
    unfold joinF
    split
    · exact hs2
    · rw [ByteArray.size_append, ByteArray.size_append]
      have : (⟨#[58]⟩ : ByteArray).size = 1 := rfl
      omega
  have he := empty_size p
  obtain ⟨a, b, ok, hsp⟩ : ∃ a b ok, splitF (joinF p l) = (a, b, ok) := ⟨_, _, _, rfl⟩
  obtain ⟨J, hJ⟩ : ∃ J, joinF p l = J := ⟨_, rfl⟩
  rw [hJ] at hsz hsp hjs
  by_cases h0 : p.size = 0
  · have d1 : (p.toList == []) = true := by rw [he]; simp [h0]
    have d2 : (p.toList != []) = false := by
      rw [bne, d1]
      rfl
    have hJl : J = l := by rw [← hJ]; unfold joinF; rw [if_pos h0]
    subst hJl
    clear he
    cases hpl : plainF J
    · clear hjs
      go_enter Try.func7, Try.ntmps7
      go_wp2_with fail
      refine (short_any _ _).mono ?_
      rintro e w1 ⟨rfl, hk1⟩
      rw [hp]
      go_wp2_with fail
      refine (short_any _ _).mono ?_
      rintro e w2 ⟨rfl, hk2⟩
      rw [hl]
      go_wp2_with fail
      refine (join_any _ _ _ hs1 hs2).mono ?_
      rintro e w3 ⟨rfl, hk3⟩
      rw [hJ]
      go_wp2_with fail
      refine (split_any _ _ hsz).mono ?_
      rintro e w4 ⟨rfl, hk4⟩
      rw [hsp]
      go_wp2_with fail
      refine (rplain_any _ _ hs2).mono ?_
      rintro e w5 ⟨rfl, hk5⟩
      rw [hpl]
      go_wp2_with fail
      refine (awake_any _).mono ?_
      rintro e w7 ⟨rfl, hk7⟩
      go_wp2_with fail
      go_ret
      exact ⟨rfl, ((((hk1.trans hk2).trans hk3).trans hk4).trans hk5).trans hk7⟩
    · have hjj := hjs hpl (Or.inl h0)
      rw [hsp] at hjj
      injection hjj with e1 e2
      injection e2 with e2 e3
      subst e1 e2 e3
      clear hjs
      go_enter Try.func7, Try.ntmps7
      go_wp2_with fail
      refine (short_any _ _).mono ?_
      rintro e w1 ⟨rfl, hk1⟩
      rw [hp]
      go_wp2_with fail
      refine (short_any _ _).mono ?_
      rintro e w2 ⟨rfl, hk2⟩
      rw [hl]
      go_wp2_with fail
      refine (join_any _ _ _ hs1 hs2).mono ?_
      rintro e w3 ⟨rfl, hk3⟩
      rw [hJ]
      go_wp2_with fail
      refine (split_any _ _ hsz).mono ?_
      rintro e w4 ⟨rfl, hk4⟩
      rw [hsp]
      go_wp2_with fail
      refine (rplain_any _ _ hs2).mono ?_
      rintro e w5 ⟨rfl, hk5⟩
      rw [hpl]
      go_wp2_with fail
      refine (awake_any _).mono ?_
      rintro e w7 ⟨rfl, hk7⟩
      go_wp2_with fail
      go_ret
      exact ⟨rfl, ((((hk1.trans hk2).trans hk3).trans hk4).trans hk5).trans hk7⟩
  · have d1 : (p.toList == []) = false := by rw [he]; simp [h0]
    have d2 : (p.toList != []) = true := by
      rw [bne, d1]
      rfl
    have hJp : p ++ (⟨#[58]⟩ : ByteArray) ++ l = J := by rw [← hJ]; unfold joinF; rw [if_neg h0]
    clear he
    cases hpl : plainF l
    · clear hjs
      go_enter Try.func7, Try.ntmps7
      go_wp2_with fail
      refine (short_any _ _).mono ?_
      rintro e w1 ⟨rfl, hk1⟩
      rw [hp]
      go_wp2_with fail
      refine (short_any _ _).mono ?_
      rintro e w2 ⟨rfl, hk2⟩
      rw [hl]
      go_wp2_with fail
      refine (join_any _ _ _ hs1 hs2).mono ?_
      rintro e w3 ⟨rfl, hk3⟩
      rw [hJ]
      go_wp2_with fail
      refine (split_any _ _ hsz).mono ?_
      rintro e w4 ⟨rfl, hk4⟩
      rw [hsp]
      go_wp2_with fail
      refine (rplain_any _ _ hs2).mono ?_
      rintro e w5 ⟨rfl, hk5⟩
      rw [hpl]
      go_wp2_with fail
      refine (awake_any _).mono ?_
      rintro e w7 ⟨rfl, hk7⟩
      go_wp2_with fail
      go_ret
      exact ⟨rfl, ((((hk1.trans hk2).trans hk3).trans hk4).trans hk5).trans hk7⟩
    · cases hpp : plainF p
      · clear hjs
        go_enter Try.func7, Try.ntmps7
        go_wp2_with fail
        refine (short_any _ _).mono ?_
        rintro e w1 ⟨rfl, hk1⟩
        rw [hp]
        go_wp2_with fail
        refine (short_any _ _).mono ?_
        rintro e w2 ⟨rfl, hk2⟩
        rw [hl]
        go_wp2_with fail
        refine (join_any _ _ _ hs1 hs2).mono ?_
        rintro e w3 ⟨rfl, hk3⟩
        rw [hJ]
        go_wp2_with fail
        refine (split_any _ _ hsz).mono ?_
        rintro e w4 ⟨rfl, hk4⟩
        rw [hsp]
        go_wp2_with fail
        refine (rplain_any _ _ hs2).mono ?_
        rintro e w5 ⟨rfl, hk5⟩
        rw [hpl]
        go_wp2_with fail
        refine (rplain_any _ _ hs1).mono ?_
        rintro e w6 ⟨rfl, hk6⟩
        rw [hpp]
        go_wp2_with fail
        refine (awake_any _).mono ?_
        rintro e w7 ⟨rfl, hk7⟩
        go_wp2_with fail
        go_ret
        exact ⟨rfl, (((((hk1.trans hk2).trans hk3).trans hk4).trans hk5).trans hk6).trans hk7⟩
      · have hjj := hjs hpl (Or.inr hpp)
        rw [hsp] at hjj
        injection hjj with e1 e2
        injection e2 with e2 e3
        subst e1 e2 e3
        clear hjs
        go_enter Try.func7, Try.ntmps7
        go_wp2_with fail
        refine (short_any _ _).mono ?_
        rintro e w1 ⟨rfl, hk1⟩
        rw [hp]
        go_wp2_with fail
        refine (short_any _ _).mono ?_
        rintro e w2 ⟨rfl, hk2⟩
        rw [hl]
        go_wp2_with fail
        refine (join_any _ _ _ hs1 hs2).mono ?_
        rintro e w3 ⟨rfl, hk3⟩
        rw [hJ]
        go_wp2_with fail
        refine (split_any _ _ hsz).mono ?_
        rintro e w4 ⟨rfl, hk4⟩
        rw [hsp]
        go_wp2_with fail
        refine (rplain_any _ _ hs2).mono ?_
        rintro e w5 ⟨rfl, hk5⟩
        rw [hpl]
        go_wp2_with fail
        refine (rplain_any _ _ hs1).mono ?_
        rintro e w6 ⟨rfl, hk6⟩
        rw [hpp]
        go_wp2_with fail
        refine (awake_any _).mono ?_
        rintro e w7 ⟨rfl, hk7⟩
        go_wp2_with fail
        go_ret
        exact ⟨rfl, (((((hk1.trans hk2).trans hk3).trans hk4).trans hk5).trans hk6).trans hk7⟩
end Go.Proofs.Ytpajcjcbfabcnaa
