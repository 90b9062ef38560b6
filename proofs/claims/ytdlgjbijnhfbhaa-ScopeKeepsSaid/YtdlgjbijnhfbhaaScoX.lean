/- The law ScopeFinds, walked; lists of bindings among the arguments, opened. -/
import Derived.Test.YtdlgjbijnhfbhaaScoD
import Derived.Test.YtdlgjbijnhfbhaaScoN
namespace Go.Proofs.Ytdlgjbijnhfbhaa
open Go.RowKit
attribute [local go_sem ↓] Go.wp_at_zero Go.wp_at_succ

theorem eff_self {ls : List (List Bd)} (h : ls ≠ []) : eff ls = ls := by
  cases ls with
  | nil => exact absurd rfl h
  | cons a b => rfl
theorem found_iff : ∃ fu : Option Bd → ByteArray, ∀ o w e w', FoundOf o w e w' ↔ (e = .returned (.tuple #[.string (fu o), .bool o.isSome]) ∧ Kept w w') :=
  ⟨fun o => match o with | some b => b.u | none => ⟨#[]⟩, fun o _ _ _ => by cases o <;> exact Iff.rfl⟩
set_option maxRecDepth 100000 in
set_option maxHeartbeats 8000000 in
theorem scopeFinds_any (A : Option Addr) (n c : Nat) (L : List Rw) (p : ByteArray) (w : World) (h : Sl w 1 A n c (L.map Rw.cell)) (hok : ∀ r ∈ L, r.ok w) :
    Calls Try.prog 3 #[.slice A n c, .string p] w fun e w' => e = .returned (.bool true) ∧ Kept w w' := by
  have HM := Lib.hid (made_any A n c L w h hok)
  clear h hok
  go_enter Try.func3, Try.ntmps3
  go_wp2_with fail
  refine HM.out.mono ?_
  rintro e w1 ⟨v, u, rfl, ls, B, m, d, W, rfl, hWl, hm, hsc, hne, hsl, hfl, hun, k1⟩
  have hf1 : findS p (eff ls) = findS p ls := by rw [eff_self hne]
  have hf2 : findB p W.reverse = findS p ls := by rw [hfl]; exact find_flat hun
  obtain ⟨o, ho⟩ : ∃ o, findS p ls = o := ⟨_, rfl⟩
  rw [ho] at hf1 hf2
  have F1 := Lib.hid hf1
  have F2 := Lib.hid hf2
  clear hf1 hf2 ho hfl hun hm hne hWl
  go_wp2_with fail
  obtain ⟨fu, hfu⟩ := found_iff
  have hd := find_any v ls p w1 hsc
  have hr := fun w' (k : Kept w1 w') => rfind_any B m d W p w' (hsl.kept k)
  simp only [hfu, F1.out, F2.out] at hd hr
  obtain ⟨U, hU⟩ : ∃ U, fu o = U := ⟨_, rfl⟩
  obtain ⟨I, hI⟩ : ∃ I, o.isSome = I := ⟨_, rfl⟩
  rw [hU, hI] at hd
  rw [hU, hI] at hr
  have HR := Lib.hid hr
  refine hd.mono ?_
  rintro e w2 ⟨rfl, k2⟩
  clear hd hr hU hI F1 F2 hfu
  go_wp2_with fail
  refine (HR.out _ k2).mono ?_
  rintro e w3 ⟨rfl, k3⟩
  have hUU : (U.toList == U.toList) = true := by simp
  have K := (k1.trans k2).trans k3
  clear HR HM hsc hsl k1 k2 k3
  cases I
  all_goals
    go_wp2_with fail
    refine (scopeAwake_any _).mono ?_
    rintro e w5 ⟨rfl, k5⟩
    go_wp2_with fail
    go_ret
    exact ⟨rfl, K.trans k5⟩
end Go.Proofs.Ytdlgjbijnhfbhaa
