/- The reader of parts of layer 8, walked: attr, where there is none. -/
import Derived.Test.YtbebmmohambngaaTagA
namespace Go.Proofs.Ytbebmmohambngaa
open Go.RowKit

section
variable {w : World} {g : Nat} {A : Option Addr} {n c : Nat} {P : List Prt} {j : Nat}
set_option maxHeartbeats 4000000 in
theorem attr_no (h : RD w g A n c P j) (ha : attrF P j = none) :
    Calls Try.prog 16 #[.pointer (some ⟨g, 0, none⟩)] w fun e w' => e = .returned (.tuple #[.agg #[.int .i64 0, .int .i64 0, .int .i64 0, .int .i64 0, .int .i64 0, .int .i64 0, .int .i64 0, .int .i64 0, .int .i64 0], .bool false]) ∧ RD w' g A n c P j ∧ Only g w w' := by
  have hc1 := h.c1
  have hlt := h.lt
  have hne : (w.heap.size = g) = False := by simp; omega
  have HA := Lib.hid ha
  clear ha
  cases t3 : takeF [3] (P.drop j)
  · go_enter Try.func16, Try.ntmps16
    go_wp2_with fail
    refine (takesR_no (h.kept (((Kept.refl _).alloc _).alloc _)) _ 1 _ [3] ?_ t3).mono ?_
    · exact Sl.litg (by simp) rfl (by omega)
    rintro e w1 ⟨rfl, hR1, hO1⟩
    go_wp2_with fail
    refine (takesR_weak (hR1.kept ((Kept.refl _).alloc _)) _ 1 _ [2] ?_ (by omega)).mono ?_
    · exact Sl.litg (by simp) rfl (by omega)
    rintro e w2 ⟨v2, i2, rfl, hR2, hO2⟩
    have HZ : Only g (w.alloc (.cells #[.int .i64 0, .int .i64 0, .int .i64 0, .int .i64 0, .int .i64 0, .int .i64 0, .int .i64 0, .int .i64 0, .int .i64 0] 45)) w2 := ((((Only.refl g _).alloc _).trans hO1).alloc _).trans hO2
    have HO0 : Only g w w2 := ((Only.refl g w).alloc _).trans HZ
    obtain ⟨z1, z2, z3⟩ := HZ.old
    have y1 := hR2.c1
    have y2 := hR2.fr
    go_wp2_with fail
    refine bodyPost_ret (v := .tuple #[.agg #[.int .i64 0, .int .i64 0, .int .i64 0, .int .i64 0, .int .i64 0, .int .i64 0, .int .i64 0, .int .i64 0, .int .i64 0], .bool false]) ?_ rfl ⟨rfl, by repeat (first | (with_reducible exact hR2.set h.le) | (with_reducible refine RD.drew ?_) | (with_reducible refine RD.far ?_ hlt _)), by repeat (first | (with_reducible exact HO0) | (with_reducible refine Only.drew ?_) | (with_reducible refine Only.new ?_ (Nat.le_refl _) _) | (with_reducible refine Only.set ?_ _ _))⟩
    simp [results, Try.results16, go_sem, z1, hne]
  cases t2 : takeF [2] (P.drop (j + 1))
  · go_enter Try.func16, Try.ntmps16
    go_wp2_with fail
    refine (takesR_yes (h.kept (((Kept.refl _).alloc _).alloc _)) _ 1 _ [3] ?_ (by omega) t3).mono ?_
    · exact Sl.litg (by simp) rfl (by omega)
    rintro e w1 ⟨b1, o1, c1, rfl, hs1, hb1, hR1, hO1⟩
    go_wp2_with fail
    refine (takesR_no (hR1.kept ((Kept.refl _).alloc _)) _ 1 _ [2] ?_ t2).mono ?_
    · exact Sl.litg (by simp) rfl (by omega)
    rintro e w2 ⟨rfl, hR2, hO2⟩
    have HZ : Only g (w.alloc (.cells #[.int .i64 0, .int .i64 0, .int .i64 0, .int .i64 0, .int .i64 0, .int .i64 0, .int .i64 0, .int .i64 0, .int .i64 0] 45)) w2 := ((((Only.refl g _).alloc _).trans hO1).alloc _).trans hO2
    have HO0 : Only g w w2 := ((Only.refl g w).alloc _).trans HZ
    obtain ⟨z1, z2, z3⟩ := HZ.old
    have y1 := hR2.c1
    have y2 := hR2.fr
    go_wp2_with fail
    refine bodyPost_ret (v := .tuple #[.agg #[.int .i64 0, .int .i64 0, .int .i64 0, .int .i64 0, .int .i64 0, .int .i64 0, .int .i64 0, .int .i64 0, .int .i64 0], .bool false]) ?_ rfl ⟨rfl, by repeat (first | (with_reducible exact hR2.set h.le) | (with_reducible refine RD.drew ?_) | (with_reducible refine RD.far ?_ hlt _)), by repeat (first | (with_reducible exact HO0) | (with_reducible refine Only.drew ?_) | (with_reducible refine Only.new ?_ (Nat.le_refl _) _) | (with_reducible refine Only.set ?_ _ _))⟩
    simp [results, Try.results16, go_sem, z1, hne]
  cases t4 : takeF [4] (P.drop (eqAt P j))
  · go_enter Try.func16, Try.ntmps16
    go_wp2_with fail
    refine (takesR_yes (h.kept (((Kept.refl _).alloc _).alloc _)) _ 1 _ [3] ?_ (by omega) t3).mono ?_
    · exact Sl.litg (by simp) rfl (by omega)
    rintro e w1 ⟨b1, o1, c1, rfl, hs1, hb1, hR1, hO1⟩
    go_wp2_with fail
    refine (takesR_yes (hR1.kept ((Kept.refl _).alloc _)) _ 1 _ [2] ?_ (by omega) t2).mono ?_
    · exact Sl.litg (by simp) rfl (by omega)
    rintro e w2 ⟨b2, o2, c2, rfl, hs2, hb2, hR2, hO2⟩
    go_wp2_with fail
    refine (takesR_skip (hR2.kept ((Kept.refl _).alloc _)) _ _ ?_).mono ?_
    · exact Sl.litg (by simp) rfl (by omega)
    rintro e w3 ⟨v3, rfl, hR3, hO3⟩
    change RD w3 g A n c P (eqAt P j) at hR3
    go_wp2_with fail
    refine (takesR_no (hR3.kept ((Kept.refl _).alloc _)) _ 1 _ [4] ?_ t4).mono ?_
    · exact Sl.litg (by simp) rfl (by omega)
    rintro e w4 ⟨rfl, hR4, hO4⟩
    go_wp2_with fail
    refine (takesR_skip (hR4.kept ((Kept.refl _).alloc _)) _ _ ?_).mono ?_
    · exact Sl.litg (by simp) rfl (by omega)
    rintro e w5 ⟨v5, rfl, hR5, hO5⟩
    skip
    go_wp2_with fail
    refine (takesR_weak (hR5.kept ((Kept.refl _).alloc _)) _ 1 _ [5] ?_ (by omega)).mono ?_
    · exact Sl.litg (by simp) rfl (by omega)
    rintro e w6 ⟨v6, i6, rfl, hR6, hO6⟩
    have HZ : Only g (w.alloc (.cells #[.int .i64 0, .int .i64 0, .int .i64 0, .int .i64 0, .int .i64 0, .int .i64 0, .int .i64 0, .int .i64 0, .int .i64 0] 45)) w6 := ((((((((((((Only.refl g _).alloc _).trans hO1).alloc _).trans hO2).alloc _).trans hO3).alloc _).trans hO4).alloc _).trans hO5).alloc _).trans hO6
    have HO0 : Only g w w6 := ((Only.refl g w).alloc _).trans HZ
    obtain ⟨z1, z2, z3⟩ := HZ.old
    have y1 := hR6.c1
    have y2 := hR6.fr
    go_wp2_with fail
    refine bodyPost_ret (v := .tuple #[.agg #[.int .i64 0, .int .i64 0, .int .i64 0, .int .i64 0, .int .i64 0, .int .i64 0, .int .i64 0, .int .i64 0, .int .i64 0], .bool false]) ?_ rfl ⟨rfl, by repeat (first | (with_reducible exact hR6.set h.le) | (with_reducible refine RD.drew ?_) | (with_reducible refine RD.far ?_ hlt _)), by repeat (first | (with_reducible exact HO0) | (with_reducible refine Only.drew ?_) | (with_reducible refine Only.new ?_ (Nat.le_refl _) _) | (with_reducible refine Only.set ?_ _ _))⟩
    simp [results, Try.results16, go_sem, z1, hne]
  have t5 : takeF [5] (P.drop (valAt P j)) = false := by
    cases t5 : takeF [5] (P.drop (valAt P j))
    · rfl
    · exfalso
      obtain ⟨p0, e0, _⟩ := takeF_one t3
      obtain ⟨p1, e1, _⟩ := takeF_one t2
      obtain ⟨v, ev, _⟩ := takeF_one t5
      have := HA.out
      unfold attrF at this
      rw [t3, t2, t4, t5, e0, e1, ev] at this
      simp at this
  go_enter Try.func16, Try.ntmps16
  go_wp2_with fail
  refine (takesR_yes (h.kept (((Kept.refl _).alloc _).alloc _)) _ 1 _ [3] ?_ (by omega) t3).mono ?_
  · exact Sl.litg (by simp) rfl (by omega)
  rintro e w1 ⟨b1, o1, c1, rfl, hs1, hb1, hR1, hO1⟩
  go_wp2_with fail
  refine (takesR_yes (hR1.kept ((Kept.refl _).alloc _)) _ 1 _ [2] ?_ (by omega) t2).mono ?_
  · exact Sl.litg (by simp) rfl (by omega)
  rintro e w2 ⟨b2, o2, c2, rfl, hs2, hb2, hR2, hO2⟩
  go_wp2_with fail
  refine (takesR_skip (hR2.kept ((Kept.refl _).alloc _)) _ _ ?_).mono ?_
  · exact Sl.litg (by simp) rfl (by omega)
  rintro e w3 ⟨v3, rfl, hR3, hO3⟩
  change RD w3 g A n c P (eqAt P j) at hR3
  go_wp2_with fail
  refine (takesR_yes (hR3.kept ((Kept.refl _).alloc _)) _ 1 _ [4] ?_ (by omega) t4).mono ?_
  · exact Sl.litg (by simp) rfl (by omega)
  rintro e w4 ⟨b4, o4, c4, rfl, hs4, hb4, hR4, hO4⟩
  go_wp2_with fail
  refine (takesR_skip (hR4.kept ((Kept.refl _).alloc _)) _ _ ?_).mono ?_
  · exact Sl.litg (by simp) rfl (by omega)
  rintro e w5 ⟨v5, rfl, hR5, hO5⟩
  change RD w5 g A n c P (valAt P j) at hR5
  go_wp2_with fail
  refine (takesR_no (hR5.kept ((Kept.refl _).alloc _)) _ 1 _ [5] ?_ t5).mono ?_
  · exact Sl.litg (by simp) rfl (by omega)
  rintro e w6 ⟨rfl, hR6, hO6⟩
  have HZ : Only g (w.alloc (.cells #[.int .i64 0, .int .i64 0, .int .i64 0, .int .i64 0, .int .i64 0, .int .i64 0, .int .i64 0, .int .i64 0, .int .i64 0] 45)) w6 := ((((((((((((Only.refl g _).alloc _).trans hO1).alloc _).trans hO2).alloc _).trans hO3).alloc _).trans hO4).alloc _).trans hO5).alloc _).trans hO6
  have HO0 : Only g w w6 := ((Only.refl g w).alloc _).trans HZ
  obtain ⟨z1, z2, z3⟩ := HZ.old
  have y1 := hR6.c1
  have y2 := hR6.fr
  go_wp2_with fail
  refine bodyPost_ret (v := .tuple #[.agg #[.int .i64 0, .int .i64 0, .int .i64 0, .int .i64 0, .int .i64 0, .int .i64 0, .int .i64 0, .int .i64 0, .int .i64 0], .bool false]) ?_ rfl ⟨rfl, by repeat (first | (with_reducible exact hR6.set h.le) | (with_reducible refine RD.drew ?_) | (with_reducible refine RD.far ?_ hlt _)), by repeat (first | (with_reducible exact HO0) | (with_reducible refine Only.drew ?_) | (with_reducible refine Only.new ?_ (Nat.le_refl _) _) | (with_reducible refine Only.set ?_ _ _))⟩
  simp [results, Try.results16, go_sem, z1, hne]
end
end Go.Proofs.Ytbebmmohambngaa
