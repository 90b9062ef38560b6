/- What a qualified name means, the document's: walked. -/
import Derived.Test.YtdlgjbijnhfbhaaScoN
namespace Go.Proofs.Ytdlgjbijnhfbhaa
open Go.RowKit
attribute [local go_sem ↓] Go.wp_at_zero Go.wp_at_succ

set_option maxHeartbeats 8000000 in
theorem of_any (A : Option Addr) (n c : Nat) (W : List Bd) (q : ByteArray) (attr : Bool) (w : World) (h : Sl w 2 A n c (W.flatMap Bd.cells)) (hq : q.size ≤ 1000000) :
    Calls Try.prog 14 #[.slice A n c, .string q, .bool attr] w fun e w' => NamedOf (meansF (fun p => findB p W.reverse) q attr) w e w' := by
  have hsp := fun w' => rsplit_any q w' hq
  have hM : meansF (fun p => findB p W.reverse) q attr = if (splitF q).2.2 then (if attr && eqL (splitF q).1 [] then some (⟨#[]⟩, (splitF q).2.1, ⟨#[]⟩) else match findB (splitF q).1 W.reverse with | none => none | some b => some (b.u, (splitF q).2.1, (splitF q).1)) else none := rfl
  obtain ⟨P, L, ok, hS⟩ : ∃ P L ok, splitF q = (P, L, ok) := ⟨_, _, _, rfl⟩
  rw [hS] at hsp hM
  dsimp only at hsp hM
  have hf := fun w' (hk : Kept w w') => rfind_any A n c W P w' (h.kept hk)
  obtain ⟨O, hO⟩ : ∃ O, findB P W.reverse = O := ⟨_, rfl⟩
  rw [hO] at hf hM
  have HSP := Lib.hid hsp
  have HM := Lib.hid hM
  have HF := Lib.hid hf
  clear hsp hM hf hO hS
  have k0 := (Kept.refl w).alloc (.cells #[.string ⟨#[]⟩, .string ⟨#[]⟩, .string ⟨#[]⟩] 33)
  have bx := Blk.new w #[.string ⟨#[]⟩, .string ⟨#[]⟩, .string ⟨#[]⟩] 33
  go_enter Try.func14, Try.ntmps14
  go_upto_region 1 with fail
  generalize w.alloc (.cells #[.string ⟨#[]⟩, .string ⟨#[]⟩, .string ⟨#[]⟩] 33) = w0 at k0 bx ⊢
  obtain ⟨g0, hg0⟩ : ∃ g, w.heap.size = g := ⟨_, rfl⟩
  have hge : w.heap.size ≤ g0 := by omega
  rw [hg0] at bx ⊢
  clear hg0
  go_wp2_with fail
  refine (HSP.out _).mono ?_
  rintro e w1 ⟨rfl, k1⟩
  have b1 := bx.kept k1
  have bf := b1.cell
  have bg := b1.frozen
  have k01 := k0.trans k1
  cases ok
  · have B3 := ((b1.set 0 (.string ⟨#[]⟩)).set 1 (.string ⟨#[]⟩)).set 2 (.string ⟨#[]⟩)
    simp only [List.setIfInBounds_toArray, List.set_cons_zero, List.set_cons_succ] at B3
    go_wp2_with fail
    have c0 := B3.cell 0
    have c1 := B3.cell 1
    have c2 := B3.cell 2
    refine bodyPost_ret (v := .tuple #[.agg #[.string ⟨#[]⟩, .string ⟨#[]⟩, .string ⟨#[]⟩], .bool false]) (by simp [results, Try.results14, go_sem, c0, c1, c2]) rfl ⟨by rw [HM.out]; rfl, ?_⟩
    exact ((k01.setCell (p := ⟨g0, 0, none⟩) hge _).setCell (p := ⟨g0, 1, none⟩) hge _).setCell (p := ⟨g0, 2, none⟩) hge _
  · obtain ⟨z, hz⟩ : ∃ z, eqL P [] = z := ⟨_, rfl⟩
    have tP : (P.toList == []) = z := hz
    have tP2 : P.toList.isEmpty = z := (isEmpty_eq _).trans tP
    have HZ := Lib.hid hz
    clear hz
    obtain ⟨t, ht⟩ : ∃ t, (attr && z) = t := ⟨_, rfl⟩
    cases t
    · have hz2 : (attr && eqL P []) = false := by rw [HZ.out]; exact ht
      have HZ2 := Lib.hid hz2
      clear hz2
      have hat : z = false ∨ (z = true ∧ attr = false) := by cases attr <;> cases z <;> simp_all
      clear ht
      cases O with
      | none =>
        rcases hat with rfl | ⟨rfl, rfl⟩
        all_goals
          go_wp2_with fail
          refine (HF.out _ k01).mono ?_
          rintro e w2 ⟨rfl, k2⟩
          have b2 := b1.kept k2
          have bf2 := b2.cell
          have bg2 := b2.frozen
          have k02 := k01.trans k2
          have B3 := ((b2.set 0 (.string ⟨#[]⟩)).set 1 (.string ⟨#[]⟩)).set 2 (.string ⟨#[]⟩)
          simp only [List.setIfInBounds_toArray, List.set_cons_zero, List.set_cons_succ] at B3
          go_wp2_with fail
          have c0 := B3.cell 0
          have c1 := B3.cell 1
          have c2 := B3.cell 2
          refine bodyPost_ret (v := .tuple #[.agg #[.string ⟨#[]⟩, .string ⟨#[]⟩, .string ⟨#[]⟩], .bool false]) (by simp [results, Try.results14, go_sem, c0, c1, c2]) rfl ⟨by rw [HM.out, HZ2.out]; rfl, ?_⟩
          exact ((k02.setCell (p := ⟨g0, 0, none⟩) hge _).setCell (p := ⟨g0, 1, none⟩) hge _).setCell (p := ⟨g0, 2, none⟩) hge _
      | some bd =>
        rcases hat with rfl | ⟨rfl, rfl⟩
        all_goals
          go_wp2_with fail
          refine (HF.out _ k01).mono ?_
          rintro e w2 ⟨rfl, k2⟩
          have b2 := b1.kept k2
          have bf2 := b2.cell
          have bg2 := b2.frozen
          have k02 := k01.trans k2
          have B3 := ((b2.set 0 (.string bd.u)).set 1 (.string L)).set 2 (.string P)
          simp only [List.setIfInBounds_toArray, List.set_cons_zero, List.set_cons_succ] at B3
          go_wp2_with fail
          have c0 := B3.cell 0
          have c1 := B3.cell 1
          have c2 := B3.cell 2
          refine bodyPost_ret (v := .tuple #[.agg #[.string bd.u, .string L, .string P], .bool true]) (by simp [results, Try.results14, go_sem, c0, c1, c2]) rfl ⟨by rw [HM.out, HZ2.out]; rfl, ?_⟩
          exact ((k02.setCell (p := ⟨g0, 0, none⟩) hge _).setCell (p := ⟨g0, 1, none⟩) hge _).setCell (p := ⟨g0, 2, none⟩) hge _
    · have hz2 : (attr && eqL P []) = true := by rw [HZ.out]; exact ht
      have HZ2 := Lib.hid hz2
      obtain ⟨rfl, rfl⟩ : attr = true ∧ z = true := by cases attr <;> cases z <;> simp_all
      clear hz2 ht
      have B3 := ((b1.set 0 (.string ⟨#[]⟩)).set 1 (.string L)).set 2 (.string ⟨#[]⟩)
      simp only [List.setIfInBounds_toArray, List.set_cons_zero, List.set_cons_succ] at B3
      go_wp2_with fail
      have c0 := B3.cell 0
      have c1 := B3.cell 1
      have c2 := B3.cell 2
      refine bodyPost_ret (v := .tuple #[.agg #[.string ⟨#[]⟩, .string L, .string ⟨#[]⟩], .bool true]) (by simp [results, Try.results14, go_sem, c0, c1, c2]) rfl ⟨by rw [HM.out, HZ2.out]; rfl, ?_⟩
      exact ((k01.setCell (p := ⟨g0, 0, none⟩) hge _).setCell (p := ⟨g0, 1, none⟩) hge _).setCell (p := ⟨g0, 2, none⟩) hge _

end Go.Proofs.Ytdlgjbijnhfbhaa
