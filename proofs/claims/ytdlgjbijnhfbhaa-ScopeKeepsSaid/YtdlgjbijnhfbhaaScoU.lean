/- The law ScopeKeeps, walked. -/
import Derived.Test.YtdlgjbijnhfbhaaScoT
import Derived.Test.YtdlgjbijnhfbhaaScoX
namespace Go.Proofs.Ytdlgjbijnhfbhaa
open Go.RowKit
attribute [local go_sem ↓] Go.wp_at_zero Go.wp_at_succ

theorem push_ne {v : Value} {ls : List (List Bd)} {A : Option Addr} {n c : Nat} {L : List Bd} {w : World} {z : Int} (hz : codeF [] L = z) (h0 : z ≠ 0) (hs : ScopeAt w v ls) (h : Sl w 2 A n c (L.flatMap Bd.cells)) (hn : n ≤ 1000000) :
    Calls Try.prog 18 #[v, .slice A n c] w fun e w' => e = .returned (.tuple #[.pointer none, .int .i64 z]) ∧ Kept w w' := by
  refine (push_any v ls A n c L w hs h hn).mono fun e w' hp => ?_
  obtain ⟨k, hp⟩ := hp
  rw [hz] at hp
  rcases hp with ⟨_, rfl⟩ | ⟨h1, _⟩
  · exact ⟨rfl, k⟩
  · exact absurd h1 h0
theorem push_eq {v : Value} {ls : List (List Bd)} {A : Option Addr} {n c : Nat} {L : List Bd} {w : World} (hz : codeF [] L = 0) (hs : ScopeAt w v ls) (h : Sl w 2 A n c (L.flatMap Bd.cells)) (hn : n ≤ 1000000) :
    Calls Try.prog 18 #[v, .slice A n c] w fun e w' => ∃ g, e = .returned (.tuple #[.pointer (some ⟨g, 0, none⟩), .int .i64 0]) ∧ Kept w w' := by
  refine (push_any v ls A n c L w hs h hn).mono fun e w' hp => ?_
  obtain ⟨k, hp⟩ := hp
  rw [hz] at hp
  rcases hp with ⟨h1, _⟩ | ⟨_, g, he, _⟩
  · exact absurd rfl h1
  · exact ⟨g, he, k⟩
theorem nub_root : (nubF [] root).length = 2 := by
  have h : hasP sXml [⟨⟨#[]⟩, ⟨#[]⟩⟩] = false := by
    rw [Bool.eq_false_iff]
    intro e
    have h1 := hasP_iff.1 e
    simp at h1
    have h2 := congrArg ByteArray.size h1
    simp [sXml, ByteArray.size] at h2
  show (if hasP sXml [⟨⟨#[]⟩, ⟨#[]⟩⟩] then nubF [⟨⟨#[]⟩, ⟨#[]⟩⟩] [] else nubF ([⟨⟨#[]⟩, ⟨#[]⟩⟩] ++ [⟨sXml, sXML⟩]) []).length = 2
  rw [h]
  rfl
theorem allNil_any (w : World) : Calls Try.prog 17 #[.pointer none] w fun e w' => ∃ A c, e = .returned (.slice A 2 c) ∧ Kept w w' := by
  refine (all_any (.pointer none) [] w rfl (by decide)).mono fun e w' h => ?_
  obtain ⟨A, c, L, he, _, k, hp, _⟩ := h
  have hl : L.length = 2 := by
    rw [hp.length_eq]
    exact nub_root
  rw [hl] at he
  exact ⟨A, c, he, k⟩
theorem foundC (fu : Option Bd → ByteArray) (hfu : ∀ o w e w', FoundOf o w e w' ↔ (e = .returned (.tuple #[.string (fu o), .bool o.isSome]) ∧ Kept w w')) {v : Value} {ls : List (List Bd)} {p : ByteArray} {w : World} (hs : ScopeAt w v ls) :
    Calls Try.prog 9 #[v, .string p] w fun e w' => e = .returned (.tuple #[.string (fu (findS p (eff ls))), .bool (findS p (eff ls)).isSome]) ∧ Kept w w' :=
  (find_any v ls p w hs).mono fun _ _ h => (hfu _ _ _ _).1 h
set_option maxRecDepth 100000 in
set_option maxHeartbeats 8000000 in
theorem scopeKeeps_any (A : Option Addr) (n c : Nat) (L : List Rw) (A1 : Option Addr) (n1 c1 : Nat) (L1 : List Bd) (p : ByteArray) (w : World) (h : Sl w 1 A n c (L.map Rw.cell)) (hok : ∀ r ∈ L, r.ok w) (h1 : Sl w 2 A1 n1 c1 (L1.flatMap Bd.cells)) :
    Calls Try.prog 7 #[.slice A n c, .slice A1 n1 c1, .string p] w fun e w' => e = .returned (.bool true) ∧ Kept w w' := by
  have HM := Lib.hid (made_any A n c L w h hok)
  obtain ⟨fu, hfu⟩ := found_iff
  have hF := fun v ls w' (hs : ScopeAt w' v ls) => foundC fu hfu (p := p) hs
  obtain ⟨M, hM⟩ : ∃ M, min n1 6 = M := ⟨_, rfl⟩
  have hM6 : M ≤ 1000000 := by omega
  have hO := fun w' (k : Kept w w') => ours_any A1 n1 c1 L1 w' (h1.kept k)
  rw [hM] at hO
  have HO := Lib.hid hO
  clear h hok hM hO h1 hfu
  go_enter Try.func7, Try.ntmps7
  go_wp2_with fail
  refine HM.out.mono ?_
  rintro e w1 ⟨v, u, rfl, ls, B, m, d, W, rfl, hWl, hm, hsc, hne, hsl, hfl, hun, k1⟩
  clear HM hWl hm hne hsl hfl hun
  obtain ⟨U, hU⟩ : ∃ U, fu (findS p (eff ls)) = U := ⟨_, rfl⟩
  obtain ⟨I, hI⟩ : ∃ I, (findS p (eff ls)).isSome = I := ⟨_, rfl⟩
  obtain ⟨U', hU'⟩ : ∃ U, fu (findS p (eff [])) = U := ⟨_, rfl⟩
  obtain ⟨I', hI'⟩ : ∃ I, (findS p (eff [])).isSome = I := ⟨_, rfl⟩
  have f1 := fun w' (k : Kept w1 w') => hF v ls w' (hsc.kept k)
  rw [hU, hI] at f1
  have f2 := fun w' => hF (.pointer none) [] w' rfl
  rw [hU', hI'] at f2
  have f3 := fun w' v' (h : ScopeAt w' v' [root]) => hF v' [root] w' h
  have e3 : eff [root] = eff [] := rfl
  rw [e3, hU', hI'] at f3
  have F1 := Lib.hid f1
  have F2 := Lib.hid f2
  have F3 := Lib.hid f3
  have HS := Lib.hid hsc
  clear hF hU hI hU' hI' f1 f2 f3 e3 hsc
  have sU : (U.toList == U.toList) = true := by simp
  have sU' : (U'.toList == U'.toList) = true := by simp
  have sI : (I == I) = true := by simp
  have sI' : (I' == I') = true := by simp
  go_wp2_with fail
  refine (F1.out _ (Kept.refl _)).mono ?_
  rintro e w2 ⟨rfl, k2⟩
  go_wp2_with fail
  refine (HO.out _ (k1.trans k2)).mono ?_
  rintro e w3 ⟨M', VA, VC, rfl, rfl, hV, k3⟩
  obtain ⟨z, hz⟩ : ∃ z, codeF [] (L1.take M') = z := ⟨_, rfl⟩
  have HZ := Lib.hid hz
  clear hz
  have HV := Lib.hid hV
  clear hV
  go_wp2_with fail
  refine (push_any v ls VA M' VC _ _ (HS.out.kept (k2.trans k3)) HV.out hM6).mono ?_
  rintro e w4 ⟨k4, hp⟩
  have hE : ∃ x, e = .returned x := by
    rcases hp with ⟨_, rfl⟩ | ⟨_, g, rfl, _⟩ <;> exact ⟨_, rfl⟩
  obtain ⟨x, rfl⟩ := hE
  clear hp
  go_wp2_with fail
  refine (F1.out _ ((k2.trans k3).trans k4)).mono ?_
  rintro e w5 ⟨rfl, k5⟩
  go_wp2_with fail
  refine (F2.out _).mono ?_
  rintro e w6 ⟨rfl, k6⟩
  go_wp2_with fail
  refine (new_any _).mono ?_
  rintro e w7 ⟨g7, rfl, hs7, k7⟩
  go_wp2_with fail
  refine (F3.out _ _ hs7).mono ?_
  rintro e w8 ⟨rfl, k8⟩
  have K8 := (((((((k1.trans k2).trans k3).trans k4).trans k5).trans k6).trans k7).trans k8)
  clear hs7 k1 k2 k3 k4 k5 k6 k7 k8 HV HS F1 F2 F3
  go_wp2_with fail
  refine (HO.out _ K8).mono ?_
  rintro e w9 ⟨M2, VA2, VC2, rfl, rfl, hV2, k9⟩
  go_wp2_with fail
  by_cases h0 : z = 0
  · subst h0
    refine (push_eq (v := .pointer none) (ls := []) HZ.out rfl hV2 hM6).mono ?_
    rintro e w10 ⟨g10, rfl, k10⟩
    go_wp2_with fail
    refine (new_any _).mono ?_
    rintro e w11 ⟨g11, rfl, hs11, k11⟩
    have K11 := ((K8.trans k9).trans k10).trans k11
    go_wp2_with fail
    refine (HO.out _ K11).mono ?_
    rintro e w12 ⟨M3, VA3, VC3, rfl, rfl, hV3, k12⟩
    go_wp2_with fail
    refine (push_eq HZ.out (hs11.kept k12) hV3 hM6).mono ?_
    rintro e w13 ⟨g13, rfl, k13⟩
    have K13 := (K11.trans k12).trans k13
    clear K11 K8 k9 k10 k11 k12 k13 hV2 hV3 hs11 HO HZ
    go_wp2_with fail
    refine (allNil_any _).mono ?_
    rintro e w14 ⟨A14, c14, rfl, k14⟩
    go_wp2_with fail
    refine (scopeAwake_any _).mono ?_
    rintro e w15 ⟨rfl, k15⟩
    go_wp2_with fail
    go_ret
    exact ⟨rfl, (K13.trans k14).trans k15⟩
  · refine (push_ne (v := .pointer none) (ls := []) HZ.out h0 rfl hV2 hM6).mono ?_
    rintro e w10 ⟨rfl, k10⟩
    go_wp2_with fail
    refine (new_any _).mono ?_
    rintro e w11 ⟨g11, rfl, hs11, k11⟩
    have K11 := ((K8.trans k9).trans k10).trans k11
    go_wp2_with fail
    refine (HO.out _ K11).mono ?_
    rintro e w12 ⟨M3, VA3, VC3, rfl, rfl, hV3, k12⟩
    go_wp2_with fail
    refine (push_ne HZ.out h0 (hs11.kept k12) hV3 hM6).mono ?_
    rintro e w13 ⟨rfl, k13⟩
    have K13 := (K11.trans k12).trans k13
    have sz : (z == z) = true := by simp
    clear K11 K8 k9 k10 k11 k12 k13 hV2 hV3 hs11 HO HZ h0
    go_wp2_with fail
    refine (allNil_any _).mono ?_
    rintro e w14 ⟨A14, c14, rfl, k14⟩
    go_wp2_with fail
    refine (scopeAwake_any _).mono ?_
    rintro e w15 ⟨rfl, k15⟩
    go_wp2_with fail
    go_ret
    exact ⟨rfl, (K13.trans k14).trans k15⟩
end Go.Proofs.Ytdlgjbijnhfbhaa
