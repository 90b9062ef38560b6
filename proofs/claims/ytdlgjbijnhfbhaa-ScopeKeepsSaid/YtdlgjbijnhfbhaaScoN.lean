/- What a qualified name means (layer 19); the chapter's example: walked. -/
import Derived.Test.YtdlgjbijnhfbhaaScoR
import Derived.Test.YtdlgjbijnhfbhaaNameS
namespace Go.Proofs.Ytdlgjbijnhfbhaa
open Go.RowKit
attribute [local go_sem ↓] Go.wp_at_zero Go.wp_at_succ

/-- What it means, once it is known what prefixes mean. -/
def meansF (find : ByteArray → Option Bd) (q : ByteArray) (attr : Bool) : Option (ByteArray × ByteArray × ByteArray) :=
  if (splitF q).2.2 then
    (if attr && eqL (splitF q).1 [] then some (⟨#[]⟩, (splitF q).2.1, ⟨#[]⟩)
     else match find (splitF q).1 with
      | none => none
      | some b => some (b.u, (splitF q).2.1, (splitF q).1))
  else none
def nm3 (o : Option (ByteArray × ByteArray × ByteArray)) : List Value := match o with
  | none => [.string ⟨#[]⟩, .string ⟨#[]⟩, .string ⟨#[]⟩]
  | some x => [.string x.1, .string x.2.1, .string x.2.2]
def NamedOf (o : Option (ByteArray × ByteArray × ByteArray)) (w : World) (e : Ending) (w' : World) : Prop :=
  e = .returned (.tuple #[.agg (nm3 o).toArray, .bool o.isSome]) ∧ Kept w w'
theorem same_any (a b c a' b' c' : ByteArray) (w : World) : Calls Try.prog 12 #[.agg #[.string a, .string b, .string c], .agg #[.string a', .string b', .string c']] w fun e w' => e = .returned (.bool (eqS a a' && eqS b b')) ∧ Kept w w' := by
  cases h1 : eqS a a'
  · have d1 : (a.toList == a'.toList) = false := h1
    clear h1
    go_enter Try.func12, Try.ntmps12
    go_wp2_with fail
    go_ret
    exact ⟨rfl, ((Kept.refl _).alloc _).alloc _⟩
  · have d1 : (a.toList == a'.toList) = true := h1
    obtain ⟨z, hz⟩ : ∃ z, eqS b b' = z := ⟨_, rfl⟩
    have d2 : (b.toList == b'.toList) = z := hz
    rw [hz]
    clear h1 hz
    go_enter Try.func12, Try.ntmps12
    go_wp2_with fail
    go_ret
    exact ⟨rfl, ((Kept.refl _).alloc _).alloc _⟩
set_option maxHeartbeats 8000000 in
theorem scopeName_any (v : Value) (ls : List (List Bd)) (q : ByteArray) (attr : Bool) (w : World) (hs : ScopeAt w v ls) (hq : q.size ≤ 1000000) :
    Calls Try.prog 13 #[v, .string q, .bool attr] w fun e w' => NamedOf (meansF (fun p => findS p (eff ls)) q attr) w e w' := by
  have hsp := fun w' => split_any q w' hq
  have hM : meansF (fun p => findS p (eff ls)) q attr = if (splitF q).2.2 then (if attr && eqL (splitF q).1 [] then some (⟨#[]⟩, (splitF q).2.1, ⟨#[]⟩) else match findS (splitF q).1 (eff ls) with | none => none | some b => some (b.u, (splitF q).2.1, (splitF q).1)) else none := rfl
  obtain ⟨P, L, ok, hS⟩ : ∃ P L ok, splitF q = (P, L, ok) := ⟨_, _, _, rfl⟩
  rw [hS] at hsp hM
  dsimp only at hsp hM
  have hf := fun w' (hk : Kept w w') => find_any v ls P w' (hs.kept hk)
  obtain ⟨O, hO⟩ : ∃ O, findS P (eff ls) = O := ⟨_, rfl⟩
  rw [hO] at hf hM
  have HSP := Lib.hid hsp
  have HM := Lib.hid hM
  have HF := Lib.hid hf
  clear hsp hM hf hO hS
  have k0 := (Kept.refl w).alloc (.cells #[.string ⟨#[]⟩, .string ⟨#[]⟩, .string ⟨#[]⟩] 34)
  have bx := Blk.new w #[.string ⟨#[]⟩, .string ⟨#[]⟩, .string ⟨#[]⟩] 34
  go_enter Try.func13, Try.ntmps13
  go_upto_region 1 with fail
  generalize w.alloc (.cells #[.string ⟨#[]⟩, .string ⟨#[]⟩, .string ⟨#[]⟩] 34) = w0 at k0 bx ⊢
  obtain ⟨g0, hg0⟩ : ∃ g, w.heap.size = g := ⟨_, rfl⟩
  have hge : w.heap.size ≤ g0 := by omega
  rw [hg0] at bx ⊢
  clear hg0
  go_wp2_with fail
  refine (HSP.out _).mono ?_
  rintro e w1 ⟨rfl, k1⟩
  have b1 := bx.kept k1
  have bf := b1.cell
  have bg := b1.frozen
  have k01 := k0.trans k1
  cases ok
  · have B3 := ((b1.set 0 (.string ⟨#[]⟩)).set 1 (.string ⟨#[]⟩)).set 2 (.string ⟨#[]⟩)
    simp only [List.setIfInBounds_toArray, List.set_cons_zero, List.set_cons_succ] at B3
    go_wp2_with fail
    have c0 := B3.cell 0
    have c1 := B3.cell 1
    have c2 := B3.cell 2
    refine bodyPost_ret (v := .tuple #[.agg #[.string ⟨#[]⟩, .string ⟨#[]⟩, .string ⟨#[]⟩], .bool false]) (by simp [results, Try.results13, go_sem, c0, c1, c2]) rfl ⟨by rw [HM.out]; rfl, ?_⟩
    exact ((k01.setCell (p := ⟨g0, 0, none⟩) hge _).setCell (p := ⟨g0, 1, none⟩) hge _).setCell (p := ⟨g0, 2, none⟩) hge _
  · obtain ⟨z, hz⟩ : ∃ z, eqL P [] = z := ⟨_, rfl⟩
    have tP : (P.toList == []) = z := hz
    have tP2 : P.toList.isEmpty = z := (isEmpty_eq _).trans tP
    have HZ := Lib.hid hz
    clear hz
    obtain ⟨t, ht⟩ : ∃ t, (attr && z) = t := ⟨_, rfl⟩
    cases t
    · have hz2 : (attr && eqL P []) = false := by rw [HZ.out]; exact ht
      have HZ2 := Lib.hid hz2
      clear hz2
      have hat : attr = false ∨ (attr = true ∧ z = false) := by cases attr <;> cases z <;> simp_all
      clear ht
      cases O with
      | none =>
        rcases hat with rfl | ⟨rfl, rfl⟩
        all_goals
          go_wp2_with fail
          refine (HF.out _ k01).mono ?_
          rintro e w2 ⟨rfl, k2⟩
          have b2 := b1.kept k2
          have bf2 := b2.cell
          have bg2 := b2.frozen
          have k02 := k01.trans k2
          have B3 := ((b2.set 0 (.string ⟨#[]⟩)).set 1 (.string ⟨#[]⟩)).set 2 (.string ⟨#[]⟩)
          simp only [List.setIfInBounds_toArray, List.set_cons_zero, List.set_cons_succ] at B3
          go_wp2_with fail
          have c0 := B3.cell 0
          have c1 := B3.cell 1
          have c2 := B3.cell 2
          refine bodyPost_ret (v := .tuple #[.agg #[.string ⟨#[]⟩, .string ⟨#[]⟩, .string ⟨#[]⟩], .bool false]) (by simp [results, Try.results13, go_sem, c0, c1, c2]) rfl ⟨by rw [HM.out, HZ2.out]; rfl, ?_⟩
          exact ((k02.setCell (p := ⟨g0, 0, none⟩) hge _).setCell (p := ⟨g0, 1, none⟩) hge _).setCell (p := ⟨g0, 2, none⟩) hge _
      | some bd =>
        rcases hat with rfl | ⟨rfl, rfl⟩
        all_goals
          go_wp2_with fail
          refine (HF.out _ k01).mono ?_
          rintro e w2 ⟨rfl, k2⟩
          have b2 := b1.kept k2
          have bf2 := b2.cell
          have bg2 := b2.frozen
          have k02 := k01.trans k2
          have B3 := ((b2.set 0 (.string bd.u)).set 1 (.string L)).set 2 (.string P)
          simp only [List.setIfInBounds_toArray, List.set_cons_zero, List.set_cons_succ] at B3
          go_wp2_with fail
          have c0 := B3.cell 0
          have c1 := B3.cell 1
          have c2 := B3.cell 2
          refine bodyPost_ret (v := .tuple #[.agg #[.string bd.u, .string L, .string P], .bool true]) (by simp [results, Try.results13, go_sem, c0, c1, c2]) rfl ⟨by rw [HM.out, HZ2.out]; rfl, ?_⟩
          exact ((k02.setCell (p := ⟨g0, 0, none⟩) hge _).setCell (p := ⟨g0, 1, none⟩) hge _).setCell (p := ⟨g0, 2, none⟩) hge _
    · have hz2 : (attr && eqL P []) = true := by rw [HZ.out]; exact ht
      have HZ2 := Lib.hid hz2
      obtain ⟨rfl, rfl⟩ : attr = true ∧ z = true := by cases attr <;> cases z <;> simp_all
      clear hz2 ht
      have B3 := ((b1.set 0 (.string ⟨#[]⟩)).set 1 (.string L)).set 2 (.string ⟨#[]⟩)
      simp only [List.setIfInBounds_toArray, List.set_cons_zero, List.set_cons_succ] at B3
      go_wp2_with fail
      have c0 := B3.cell 0
      have c1 := B3.cell 1
      have c2 := B3.cell 2
      refine bodyPost_ret (v := .tuple #[.agg #[.string ⟨#[]⟩, .string L, .string ⟨#[]⟩], .bool true]) (by simp [results, Try.results13, go_sem, c0, c1, c2]) rfl ⟨by rw [HM.out, HZ2.out]; rfl, ?_⟩
      exact ((k01.setCell (p := ⟨g0, 0, none⟩) hge _).setCell (p := ⟨g0, 1, none⟩) hge _).setCell (p := ⟨g0, 2, none⟩) hge _

/-- The program's scope, a scope of one binding at the root's: the example. -/
def egB : Bd := ⟨⟨#[112]⟩, ⟨#[117]⟩⟩
theorem eg_code : codeF [] [egB] = 0 := by decide +kernel
theorem eg_name1 : meansF (fun p => findS p (eff [[egB], root])) ⟨#[112, 58, 97]⟩ false = some (⟨#[117]⟩, ⟨#[97]⟩, ⟨#[112]⟩) := by decide +kernel
theorem eg_name2 : meansF (fun p => findS p (eff [[egB], root])) ⟨#[97]⟩ true = some (⟨#[]⟩, ⟨#[97]⟩, ⟨#[]⟩) := by decide +kernel
set_option maxHeartbeats 8000000 in
theorem scopeAwake_any (w : World) : Calls Try.prog 11 #[] w fun e w' => e = .returned (.bool true) ∧ Kept w w' := by
  go_enter Try.func11, Try.ntmps11
  go_wp2_with fail
  refine (new_any _).mono ?_
  rintro e w1 ⟨g, rfl, hs, k1⟩
  have hS := Sl.litf (w := w1) (t := 45) (cs := [.string ⟨#[112]⟩, .string ⟨#[117]⟩]) (n := 1) (s := 2) (enc := Bd.cells) (l := [egB]) rfl rfl (by omega)
  have k2 := (Kept.refl w1).alloc (.cells #[.string ⟨#[112]⟩, .string ⟨#[117]⟩] 45)
  go_wp2_with fail
  refine (push_any _ [root] _ _ _ [egB] _ (hs.kept k2) hS (by omega)).mono ?_
  rintro e w3 ⟨k3, ⟨h1, _⟩ | ⟨_, g2, rfl, hs3⟩⟩
  · exact absurd eg_code h1
  have hs3' : ScopeAt w3 (.pointer (some ⟨g2, 0, none⟩)) [[egB], root] := hs3
  have k13 := (k1.trans k2).trans k3
  clear hs3 hs hS k1 k2 k3
  have hn1 := fun w' (hk : Kept w3 w') => scopeName_any _ _ ⟨#[112, 58, 97]⟩ false w' (hs3'.kept hk) (by decide)
  have hn2 := fun w' (hk : Kept w3 w') => scopeName_any _ _ ⟨#[97]⟩ true w' (hs3'.kept hk) (by decide)
  unfold NamedOf at hn1 hn2
  rw [eg_name1] at hn1
  rw [eg_name2] at hn2
  have hm1 : ∀ w', Kept w3 w' → Calls Try.prog 13 #[.pointer (some ⟨g2, 0, none⟩), .string ⟨#[112, 58, 97]⟩, .bool false] w' fun e w'' => e = .returned (.tuple #[.agg #[.string ⟨#[117]⟩, .string ⟨#[97]⟩, .string ⟨#[112]⟩], .bool true]) ∧ Kept w' w'' := hn1
  have hm2 : ∀ w', Kept w3 w' → Calls Try.prog 13 #[.pointer (some ⟨g2, 0, none⟩), .string ⟨#[97]⟩, .bool true] w' fun e w'' => e = .returned (.tuple #[.agg #[.string ⟨#[]⟩, .string ⟨#[97]⟩, .string ⟨#[]⟩], .bool true]) ∧ Kept w' w'' := hn2
  have H1 := Lib.hid hm1
  have H2 := Lib.hid hm2
  clear hn1 hn2 hm1 hm2
  go_wp2_with fail
  refine (H1.out _ (Kept.refl _)).mono ?_
  rintro e w4 ⟨rfl, k4⟩
  have k5 := (Kept.refl w4).alloc (.cells #[.string ⟨#[117]⟩, .string ⟨#[97]⟩, .string ⟨#[112]⟩] 34)
  have b5 := Blk.new w4 #[.string ⟨#[117]⟩, .string ⟨#[97]⟩, .string ⟨#[112]⟩] 34
  go_upto_region 3 with fail
  generalize w4.alloc (.cells #[.string ⟨#[117]⟩, .string ⟨#[97]⟩, .string ⟨#[112]⟩] 34) = w5 at k5 b5 ⊢
  obtain ⟨g5, hg5⟩ : ∃ z, w4.heap.size = z := ⟨_, rfl⟩
  rw [hg5] at b5 ⊢
  clear hg5
  go_wp2_with fail
  refine (H2.out _ (k4.trans k5)).mono ?_
  rintro e w6 ⟨rfl, k6⟩
  have k36 := (k4.trans k5).trans k6
  have b6 := b5.kept k6
  have bf6 := b6.cell
  have hl6 := b6.lt
  have hK := k13.trans k36
  clear k4 k5 k6
  go_wp2_with fail
  go_ret
  exact ⟨rfl, hK.alloc _⟩
end Go.Proofs.Ytdlgjbijnhfbhaa
