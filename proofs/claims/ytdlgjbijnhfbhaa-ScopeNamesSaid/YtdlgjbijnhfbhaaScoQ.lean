/- The law ScopeNames, walked. -/
import Derived.Test.YtdlgjbijnhfbhaaScoX
import Derived.Test.YtdlgjbijnhfbhaaScoL
namespace Go.Proofs.Ytdlgjbijnhfbhaa
open Go.RowKit
attribute [local go_sem ↓] Go.wp_at_zero Go.wp_at_succ

theorem named_iff (o : Option (ByteArray × ByteArray × ByteArray)) : ∃ a b c I, ∀ w e w', NamedOf o w e w' ↔ (e = .returned (.tuple #[.agg #[.string a, .string b, .string c], .bool I]) ∧ Kept w w') := by
  cases o
  all_goals exact ⟨_, _, _, _, fun _ _ _ => Iff.rfl⟩
theorem decl_iff (o : Option ByteArray) : ∃ S J, ∀ w e w', DeclOf o w e w' ↔ (e = .returned (.tuple #[.string S, .bool J]) ∧ Kept w w') := ⟨_, _, fun _ _ _ => Iff.rfl⟩
set_option maxRecDepth 100000 in
set_option maxHeartbeats 8000000 in
theorem scopeNames_any (A : Option Addr) (n c : Nat) (L : List Rw) (q : ByteArray) (attr : Bool) (w : World) (h : Sl w 1 A n c (L.map Rw.cell)) (hok : ∀ r ∈ L, r.ok w) :
    Calls Try.prog 5 #[.slice A n c, .string q, .bool attr] w fun e w' => e = .returned (.bool true) ∧ Kept w w' := by
  have HM := Lib.hid (made_any A n c L w h hok)
  clear h hok
  obtain ⟨Q, hQ0, hs⟩ : ∃ Q : ByteArray, Q = (if 60 < q.size then q.extract 0 60 else q) ∧ Q.size ≤ 1000000 := by
    refine ⟨_, rfl, ?_⟩
    split
    · rw [ByteArray.size_extract]; omega
    · omega
  have hn := fun v ls w' (k : ScopeAt w' v ls) => scopeName_any v ls Q attr w' k hs
  have ho := fun B m d W w' (k : Sl w' 2 B m d (W.flatMap Bd.cells)) => of_any B m d W Q attr w' k hs
  have hd := fun w' => decl_any Q w' hs
  have hr := fun w' => rdecl_any Q w' hs
  obtain ⟨S, J, hSJ⟩ := decl_iff (declF Q)
  simp only [hSJ] at hd hr
  obtain ⟨F, hF⟩ : ∃ F : (ByteArray → Option Bd) → Option (ByteArray × ByteArray × ByteArray), (fun f => meansF f Q attr) = F := ⟨_, rfl⟩
  have hF' : ∀ f, meansF f Q attr = F f := fun f => congrFun hF f
  simp only [hF'] at hn ho
  clear hF hF'
  have HN := Lib.hid hn
  have HO := Lib.hid ho
  have HD := Lib.hid hd
  have HR := Lib.hid hr
  clear hn ho hd hr hSJ hs
  have hSS : (S.toList == S.toList) = true := by simp
  obtain ⟨hQ, l1⟩ | ⟨hQ, l1⟩ : (Q = q.extract 0 60 ∧ (60 : Int) < q.size) ∨ (Q = q ∧ ¬ (60 : Int) < q.size) := by
    by_cases h60 : 60 < q.size
    · rw [if_pos h60] at hQ0
      exact .inl ⟨hQ0, by omega⟩
    · rw [if_neg h60] at hQ0
      exact .inr ⟨hQ0, by omega⟩
  all_goals
    clear hQ0
    have l2 : (60 : Int) < q.size → (60 : Int) ≤ q.size := by omega
    try (have l3 := l2 l1)
    clear l2
    subst hQ
    go_enter Try.func5, Try.ntmps5
    go_wp2_with fail
    refine HM.out.mono ?_
    rintro e w1 ⟨v, u, rfl, ls, B, m, d, W, rfl, hWl, hm, hsc, hne, hsl, hfl, hun, k1⟩
    have hn1 := HN.out v ls w1 hsc
    have ho1 := fun w' (k : Kept w1 w') => HO.out B m d W w' (hsl.kept k)
    rw [show (fun p => findS p (eff ls)) = (fun p => findS p ls) by rw [eff_self hne]] at hn1
    rw [show (fun p => findB p W.reverse) = (fun p => findS p ls) by funext p; rw [hfl]; exact find_flat hun] at ho1
    obtain ⟨x, y, z, I, hI⟩ := named_iff (F (fun p => findS p ls))
    simp only [hI] at hn1 ho1
    have HN1 := Lib.hid hn1
    have HO1 := Lib.hid ho1
    have hxx : (x.toList == x.toList) = true := by simp
    have hyy : (y.toList == y.toList) = true := by simp
    have hzz : (z.toList == z.toList) = true := by simp
    clear hn1 ho1 hI hfl hun hm hne hWl hsc hsl
    go_wp2_with fail
    refine HN1.out.mono ?_
    rintro e w2 ⟨rfl, k2⟩
    have B2 := Blk.new w2 #[.string x, .string y, .string z] 34
    have K2 := (k1.trans k2).alloc (.cells #[.string x, .string y, .string z] 34)
    have k2' := k2.alloc (.cells #[.string x, .string y, .string z] 34)
    go_upto_region 5 with fail
    generalize w2.alloc (.cells #[.string x, .string y, .string z] 34) = v2 at B2 K2 k2' ⊢
    obtain ⟨g2, hg2⟩ : ∃ g, w2.heap.size = g := ⟨_, rfl⟩
    rw [hg2] at B2 ⊢
    go_wp2_with fail
    refine (HO1.out _ k2').mono ?_
    rintro e w3 ⟨rfl, k3⟩
    have B23 := (B2.kept k3).kept ((Kept.refl w3).alloc (.cells #[.string x, .string y, .string z] 33))
    have B3 := Blk.new w3 #[.string x, .string y, .string z] 33
    have K3 := (K2.trans k3).alloc (.cells #[.string x, .string y, .string z] 33)
    go_upto_region 6 with fail
    generalize w3.alloc (.cells #[.string x, .string y, .string z] 33) = v3 at B23 B3 K3 ⊢
    obtain ⟨g3, hg3⟩ : ∃ g, w3.heap.size = g := ⟨_, rfl⟩
    rw [hg3] at B3 ⊢
    clear hg2 hg3 B2 K2 k2'
    go_wp2_with fail
    refine (HD.out _).mono ?_
    rintro e w4 ⟨rfl, k4⟩
    go_wp2_with fail
    refine (HR.out _).mono ?_
    rintro e w5 ⟨rfl, k5⟩
    have K5 := (K3.trans k4).trans k5
    have c2 := ((B23.kept k4).kept k5).cell
    have c3 := ((B3.kept k4).kept k5).cell
    have c20 := c2 0
    have c21 := c2 1
    have c22 := c2 2
    have c30 := c3 0
    have c31 := c3 1
    have c32 := c3 2
    clear HM HN HO HD HR HN1 HO1 B23 B3 K3 k4 k5 c2 c3
    cases I <;> cases J
    all_goals
      go_wp2_with fail
      refine (scopeAwake_any _).mono ?_
      rintro e w6 ⟨rfl, k6⟩
      go_wp2_with fail
      go_ret
      exact ⟨rfl, K5.trans k6⟩
end Go.Proofs.Ytdlgjbijnhfbhaa
