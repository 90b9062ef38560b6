/- The reader of parts of layer 8, walked: attr. -/
import Derived.Test.YtbebmmohambngaaTagU
namespace Go.Proofs.Ytbebmmohambngaa
open Go.RowKit
attribute [local go_sem ↓] Go.wp_at_zero Go.wp_at_succ

theorem Sl.cellAt {w : World} {s n c b o : Nat} {xs : List Value} (h : Sl w s (some ⟨b, o, none⟩) n c xs) (hn : 0 < n) {i : Nat} {u : Value} (hi : xs[i]? = some u) : w.cell? ⟨b, o + i, none⟩ = some u := by
  obtain ⟨b', o', hA, hc⟩ := h.at_ hn
  injection hA with hA
  injection hA with hb ho
  subst hb ho
  exact hc i u hi
theorem one_part {P : List Prt} {j : Nat} {p : Prt} (h : P[j]? = some p) : (((P.drop j).take 1).flatMap prtC) = prtC p := by
  rw [drop_get h]
  simp
theorem takeF_one {x : Int} {P : List Prt} {j : Nat} (h : takeF [x] (P.drop j) = true) : ∃ p, P[j]? = some p ∧ p.k = x := by
  cases hp : P[j]? with
  | none =>
    rw [List.drop_eq_nil_of_le (List.getElem?_eq_none_iff.1 hp)] at h
    simp [takeF] at h
  | some p =>
    refine ⟨p, rfl, ?_⟩
    rw [drop_get hp] at h
    simpa [takeF] using h
theorem attrF_yes {P : List Prt} {j : Nat} {a : Atr} {N : Nat} (h : attrF P j = some (a, N)) :
    ∃ p0 p1 v, takeF [3] (P.drop j) = true ∧ takeF [2] (P.drop (j + 1)) = true ∧ takeF [4] (P.drop (eqAt P j)) = true ∧ takeF [5] (P.drop (valAt P j)) = true ∧
      P[j]? = some p0 ∧ P[j + 1]? = some p1 ∧ P[valAt P j]? = some v ∧ a = ⟨p1, v, ⟨7, p0.f, v.t⟩⟩ ∧ N = valAt P j + 1 := by
  unfold attrF at h
  split at h
  · rename_i h1
    split at h
    · rename_i h2
      obtain ⟨h3, h4⟩ := Bool.and_eq_true_iff.1 h1
      obtain ⟨h5, h6⟩ := Bool.and_eq_true_iff.1 h2
      split at h
      · rename_i p0 p1 v g0 g1 gv
        injection h with h
        injection h with ha hN
        exact ⟨p0, p1, v, h3, h4, h5, h6, g0, g1, gv, ha.symm, hN.symm⟩
      · cases h
    · cases h
  · cases h

section
variable {w : World} {g : Nat} {A : Option Addr} {n c : Nat} {P : List Prt} {j : Nat}
set_option maxHeartbeats 4000000 in
theorem attr_yes (h : RD w g A n c P j) (a : Atr) (N : Nat) (ha : attrF P j = some (a, N)) :
    Calls Try.prog 16 #[.pointer (some ⟨g, 0, none⟩)] w fun e w' => e = .returned (.tuple #[.agg (atrC a).toArray, .bool true]) ∧ RD w' g A n c P N ∧ Only g w w' := by
  obtain ⟨p0, p1, v, t3, t2, t4, t5, e0, e1, ev, rfl, rfl⟩ := attrF_yes ha
  clear ha
  have hc1 := h.c1
  have hlt := h.lt
  have hne : (w.heap.size = g) = False := by simp; omega
  go_enter Try.func16, Try.ntmps16
  go_wp2_with fail
  refine (takesR_yes (h.kept (((Kept.refl _).alloc _).alloc _)) _ 1 _ [3] ?_ (by omega) t3).mono ?_
  · exact Sl.litg (by simp) rfl (by omega)
  rintro e w1 ⟨b1, o1, c1, rfl, hs1, hb1, hR1, hO1⟩
  rw [one_part e0] at hs1
  have HO1 : Only g _ w1 := (((Only.refl g _).alloc _)).trans hO1
  go_wp2_with fail
  refine (takesR_yes (hR1.kept ((Kept.refl _).alloc _)) _ 1 _ [2] ?_ (by omega) t2).mono ?_
  · exact Sl.litg (by simp) rfl (by omega)
  rintro e w2 ⟨b2, o2, c2, rfl, hs2, hb2, hR2, hO2⟩
  rw [one_part e1] at hs2
  go_wp2_with fail
  refine (takesR_skip (hR2.kept ((Kept.refl _).alloc _)) _ _ ?_).mono ?_
  · exact Sl.litg (by simp) rfl (by omega)
  rintro e w3 ⟨v3, rfl, hR3, hO3⟩
  change RD w3 g A n c P (eqAt P j) at hR3
  go_wp2_with fail
  refine (takesR_yes (hR3.kept ((Kept.refl _).alloc _)) _ 1 _ [4] ?_ (by omega) t4).mono ?_
  · exact Sl.litg (by simp) rfl (by omega)
  rintro e w4 ⟨b4, o4, c4, rfl, hs4, hb4, hR4, hO4⟩
  go_wp2_with fail
  refine (takesR_skip (hR4.kept ((Kept.refl _).alloc _)) _ _ ?_).mono ?_
  · exact Sl.litg (by simp) rfl (by omega)
  rintro e w5 ⟨v5, rfl, hR5, hO5⟩
  change RD w5 g A n c P (valAt P j) at hR5
  go_wp2_with fail
  refine (takesR_yes (hR5.kept ((Kept.refl _).alloc _)) _ 1 _ [5] ?_ (by omega) t5).mono ?_
  · exact Sl.litg (by simp) rfl (by omega)
  rintro e w6 ⟨b6, o6, c6, rfl, hs6, hb6, hR6, hO6⟩
  rw [one_part ev] at hs6
  have H12 : Only g w1 w2 := ((Only.refl g _).alloc _).trans hO2
  have H23 : Only g w2 w3 := ((Only.refl g _).alloc _).trans hO3
  have H34 : Only g w3 w4 := ((Only.refl g _).alloc _).trans hO4
  have H45 : Only g w4 w5 := ((Only.refl g _).alloc _).trans hO5
  have H56 : Only g w5 w6 := ((Only.refl g _).alloc _).trans hO6
  have H26 : Only g w2 w6 := ((H23.trans H34).trans H45).trans H56
  have H16 : Only g w1 w6 := H12.trans H26
  have HZ : Only g (w.alloc (.cells #[.int .i64 0, .int .i64 0, .int .i64 0, .int .i64 0, .int .i64 0, .int .i64 0, .int .i64 0, .int .i64 0, .int .i64 0] 45)) w6 := HO1.trans H16
  have a1 := H16.cell (hs1.cellAt (by omega) (i := 1) rfl) (Nat.ne_of_lt hb1)
  have n0 := H26.cell (hs2.cellAt (by omega) (i := 0) rfl) (Nat.ne_of_lt hb2)
  have n1 := H26.cell (hs2.cellAt (by omega) (i := 1) rfl) (Nat.ne_of_lt hb2)
  have n2 := H26.cell (hs2.cellAt (by omega) (i := 2) rfl) (Nat.ne_of_lt hb2)
  have v0 := hs6.cellAt (by omega) (i := 0) rfl
  have v1 := hs6.cellAt (by omega) (i := 1) rfl
  have v2 := hs6.cellAt (by omega) (i := 2) rfl
  rw [Nat.add_zero] at n0 v0
  obtain ⟨z1, z2, z3⟩ := HZ.old
  have HO0 : Only g w w6 := ((Only.refl g w).alloc _).trans HZ
  have y1 : (b1 = w.heap.size) = False := by simp; omega
  have y2 : (b2 = w.heap.size) = False := by simp; omega
  have y6 : (b6 = w.heap.size) = False := by simp; omega
  have y1' : (w.heap.size = b1) = False := by simp; omega
  have y2' : (w.heap.size = b2) = False := by simp; omega
  have y6' : (w.heap.size = b6) = False := by simp; omega
  clear hs1 hs2 hs4 hs6
  go_wp2_with fail
  go_region_held3 (fun w' => w'.cell? ⟨b1, o1 + 1, none⟩ = some (.int .i64 p0.f) ∧ w'.cell? ⟨b2, o2, none⟩ = some (.int .i64 p1.k) ∧ w'.cell? ⟨b2, o2 + 1, none⟩ = some (.int .i64 p1.f) ∧ w'.cell? ⟨b2, o2 + 2, none⟩ = some (.int .i64 p1.t) ∧
    w'.cell? ⟨b6, o6, none⟩ = some (.int .i64 v.k) ∧ w'.cell? ⟨b6, o6 + 1, none⟩ = some (.int .i64 v.f) ∧ w'.cell? ⟨b6, o6 + 2, none⟩ = some (.int .i64 v.t)) (first | go_keep | (refine ⟨?_, ?_, ?_, ?_, ?_, ?_, ?_⟩ <;> simp [go_sem, *])) (fail)
  all_goals go_wp2
  all_goals refine bodyPost_ret (v := .tuple #[.agg (atrC ⟨p1, v, ⟨7, p0.f, v.t⟩⟩).toArray, .bool true]) ?_ rfl ⟨rfl, by repeat (first | (with_reducible exact hR6) | (with_reducible refine RD.drew ?_) | (with_reducible refine RD.far ?_ hlt _)), by repeat (first | (with_reducible exact HO0) | (with_reducible refine Only.drew ?_) | (with_reducible refine Only.new ?_ (Nat.le_refl _) _))⟩
  all_goals simp [results, Try.results16, go_sem, atrC, prtC, z1, hne]
end
end Go.Proofs.Ytbebmmohambngaa
