/- tag.Read, walked: where the parts open a tag. NOT DONE. -/
import Derived.Test.YtbebmmohambngaaTagX
namespace Go.Proofs.Ytbebmmohambngaa
open Go.RowKit
attribute [local go_sem ↓] Go.wp_at_zero Go.wp_at_succ

theorem takeF_two {x y : Int} {P : List Prt} (h : takeF [x, y] P = true) : ∃ p0 p1 R, P = p0 :: p1 :: R ∧ p0.k = x ∧ p1.k = y := by
  match P, h with
  | [], h => simp [takeF] at h
  | [a], h => simp [takeF] at h
  | p0 :: p1 :: R, h =>
    simp [takeF] at h
    exact ⟨p0, p1, R, rfl, h.1, h.2⟩

theorem appT_atr : AppT Try.prog 34 45 9 := appT_mk (z := .agg #[.int .i64 0, .int .i64 0, .int .i64 0, .int .i64 0, .int .i64 0, .int .i64 0, .int .i64 0, .int .i64 0, .int .i64 0]) (bytes := 72) Try.underlying34 (by kernel_rfl) rfl (by omega) (by omega)
theorem atrC_len (x : Atr) : (atrC x).length = 9 := rfl

/-- A tag, as a result. -/
def TagOf (g : Tg) (e : Ending) (w w' : World) : Prop := ∃ VA VC, e = .returned (.agg #[.int .i64 g.name.k, .int .i64 g.name.f, .int .i64 g.name.t, .slice VA g.attrs.length VC, .bool g.right, .bool g.empty]) ∧ Sl w' 9 VA g.attrs.length VC (g.attrs.flatMap atrC) ∧ Kept w w'

set_option maxHeartbeats 4000000 in
theorem read_some (A : Option Addr) (n c : Nat) (l : List Int) (f t : Int) (w : World) (h : Sl w 1 A n c (l.map (Value.int .i32))) (hn : n ≤ 1000000) (hlen : (partsL l f t).length ≤ 1000000) (ht : takeF [1, 2] (partsL l f t) = true) :
    Calls Try.prog 11 #[.slice A n c, .int .i64 f, .int .i64 t] w fun e w' => TagOf (readF (partsL l f t)) e w w' := by
  have HLl := Lib.hid h.llen1
  have heq := fun (w : World) (a : Option Addr) (n c : Nat) => Lib.run_eql_slice_nil (P := Try.prog) w 24 30 a n c 0 0 Try.underlying24
  go_enter Try.func11, Try.ntmps11
  go_wp2_with fail
  refine (parts_any _ _ _ l f t _ (h.kept ?_) hn).mono ?_
  · repeat (first | exact Kept.refl _ | refine Kept.alloc ?_ _)
  rintro e w1 ⟨A', c', rfl, hP, hk1, hPo⟩
  have B6 : Blk w1 w.heap.size #[.int .i64 0, .int .i64 0, .int .i64 0, .slice none 0 0, .bool false, .bool false] 36 := ((Blk.new w _ _).alloc _).kept hk1
  have B7 : Blk w1 (w.heap.size + 1) #[.int .i64 0, .int .i64 0, .int .i64 0, .slice none 0 0, .bool false, .bool false] 36 := by
    have := (Blk.new (w.alloc (.cells #[.int .i64 0, .int .i64 0, .int .i64 0, .slice none 0 0, .bool false, .bool false] 36)) #[.int .i64 0, .int .i64 0, .int .i64 0, .slice none 0 0, .bool false, .bool false] 36).kept hk1
    simpa using this
  obtain ⟨N, hN⟩ : ∃ N, N = (partsL l f t).length := ⟨_, rfl⟩
  rw [← hN] at hP hlen hPo ⊢
  clear hN
  go_wp2_with fail
  have hR : RD ((w1.alloc (.cells #[.slice A' N c', .int .i64 0] 52)).alloc (.cells #[.int .i64 1, .int .i64 2] 3)) w1.heap.size A' N c' (partsL l f t) 0 :=
    ⟨by simp [go_sem], by simp [go_sem], by simp [go_sem], hP.kept (((Kept.refl _).alloc _).alloc _), fun hn => hP.lt (by omega) hn, Nat.zero_le _, hlen⟩
  refine (takesR_yesA hR _ 2 _ [1, 2] ?_ (by omega) ht).mono ?_
  · exact Sl.litg (by simp) rfl (by omega)
  rintro e w2 ⟨b, o, c2, rfl, hs2, hb2, hR2, hO2, bo, hbA⟩
  have l6 := B6.lt
  have l7 := B7.lt
  have C6 := ((B6.alloc _).alloc _).only hO2 (Nat.ne_of_lt l6)
  have C7 := ((B7.alloc _).alloc _).only hO2 (Nat.ne_of_lt l7)
  have HK : Kept w w2 := hO2.kept ((((Kept.refl _).alloc _ |>.alloc _).trans hk1).alloc _ |>.alloc _) (by omega)
  have f6 := C6.cell
  have f7 := C7.cell
  have g7 := C7.frozen
  obtain ⟨p0, p1, R, hPR, hk0, hk1'⟩ := takeF_two ht
  have hs3 : Sl w2 3 (some ⟨b, o, none⟩) 2 c2 (prtC p0 ++ prtC p1) := by
    rw [hPR] at hs2
    simpa using hs2
  have n0 := hs3.cellAt (by omega) (i := 3) rfl
  have n1 := hs3.cellAt (by omega) (i := 4) rfl
  have n2 := hs3.cellAt (by omega) (i := 5) rfl
  clear hs2 hk0 hk1'
  have HPR := Lib.hid hPR
  clear hPR
  have hAp : 0 < N → ∀ b o, A' = some ⟨b, o, none⟩ → b ≠ w.heap.size + 1 := by
    intro hn b o e
    subst e
    have := (hPo.lt b rfl).1
    simp at this
    omega
  have hbT : b ≠ w.heap.size + 1 := hAp (by have := hR2.le; omega) b bo hbA
  have hgt : w1.heap.size ≠ w.heap.size + 1 := by omega
  have hR3 := ((hR2.apart (p := ⟨w.heap.size + 1, 0, none⟩) hgt hAp (.int .i64 p1.k)).apart (p := ⟨w.heap.size + 1, 1, none⟩) hgt hAp (.int .i64 p1.f)).apart (p := ⟨w.heap.size + 1, 2, none⟩) hgt hAp (.int .i64 p1.t)
  go_wp2_with fail
  refine (attr_any hR3).mono ?_
  rintro e w3 ⟨rfl, hR4, hO4⟩
  obtain ⟨a0, hA0⟩ : ∃ a, attrA (partsL l f t) 2 = a := ⟨_, rfl⟩
  rw [hA0]
  have HA0 := Lib.hid hA0
  clear hA0
  obtain ⟨b0, hb0⟩ : ∃ b, (attrF (partsL l f t) 2).isSome = b := ⟨_, rfl⟩
  rw [hb0]
  have HB0 := Lib.hid hb0
  clear hb0
  have D6 := (((C6.far (p := ⟨w.heap.size + 1, 0, none⟩) (by simp) (.int .i64 p1.k)).far (p := ⟨w.heap.size + 1, 1, none⟩) (by simp) (.int .i64 p1.f)).far (p := ⟨w.heap.size + 1, 2, none⟩) (by simp) (.int .i64 p1.t)).only hO4 (by omega)
  have D7 := (((C7.set 0 (.int .i64 p1.k)).set 1 (.int .i64 p1.f)).set 2 (.int .i64 p1.t)).only hO4 (by omega)
  simp at D7
  have HK3 : Kept w w3 := hO4.kept (((HK.setCell (p := ⟨w.heap.size + 1, 0, none⟩) (by simp) _).setCell (p := ⟨w.heap.size + 1, 1, none⟩) (by simp) _).setCell (p := ⟨w.heap.size + 1, 2, none⟩) (by simp) _) (by omega)
  have hg3 : w1.heap.size < w3.heap.size := hR4.lt
  have hs4 := (hs3.off (((Only.refl (w.heap.size + 1) w2).set 0 (.int .i64 p1.k)).set 1 (.int .i64 p1.f) |>.set 2 (.int .i64 p1.t)) hbT).off hO4 (by omega)
  obtain ⟨⟨ak, af, at_⟩, ⟨bk, bf, bt⟩, ⟨ck, cf, ct⟩⟩ := a0
  simp only [atrC, prtC, List.cons_append, List.nil_append]
  go_wp2_with fail
  obtain ⟨P, hPe⟩ : ∃ P, partsL l f t = P := ⟨_, rfl⟩
  rw [hPe] at hR4 HA0 HB0 hP HPR ht
  have HPe := Lib.hid hPe
  have Hht := Lib.hid ht
  clear hPe hR hR2 hR3 hP hO4 hO2 C6 C7 f6 f7 g7 hs3 n0 n1 n2 B6 B7 hk1 HK h ht
  have hN : P.length = N := by
    have := hR4.sl.llen (s := 3) (fun _ => rfl) (by omega)
    omega
  have HN := Lib.hid hN
  have E6 := fun q => (D6.alloc q)
  have E7 := fun q => (D7.alloc q)
  go_loopg [10, 11] (P.length - 2) (fun q s ok wr => ∃ (j : Nat) (os : List Atr) (VA : Option Addr) (VC gb : Nat) (x : Atr), q = P.length - j ∧ os.length ≤ j ∧ j ≤ N ∧ s = .pointer (some ⟨gb, 0, none⟩) ∧ ok = .bool (attrF P j).isSome ∧ Hid (attrA P j = x) ∧ w1.heap.size < gb ∧ (Value.slice VA os.length VC).ownBlock ≠ some gb ∧
    Blk wr w.heap.size #[.int .i64 0, .int .i64 0, .int .i64 0, .slice none 0 0, .bool false, .bool false] 36 ∧
    Blk wr (w.heap.size + 1) #[.int .i64 p1.k, .int .i64 p1.f, .int .i64 p1.t, .slice VA os.length VC, .bool false, .bool false] 36 ∧
    Blk wr gb #[.int .i64 x.name.k, .int .i64 x.name.f, .int .i64 x.name.t, .int .i64 x.value.k, .int .i64 x.value.f, .int .i64 x.value.t, .int .i64 x.all.k, .int .i64 x.all.f, .int .i64 x.all.t] 45 ∧
    RD wr w1.heap.size A' N c' P (attrN P j) ∧ wr.ownsRow (w1.heap.size + 1) 45 9 (.slice VA os.length VC) os.length (os.flatMap atrC) ∧ Kept w wr ∧ Sl wr 3 (some ⟨b, o, none⟩) 2 c2 (prtC p0 ++ prtC p1) ∧ Hid (attrsX P 2 = (os ++ (attrsX P j).1, (attrsX P j).2)))
  case atStart =>
    refine ⟨2, [], none, 0, w3.heap.size, _, rfl, by simp, ?_, rfl, by rw [HB0.out], HA0, hg3, by simp [Value.ownBlock], ?_, ?_, ?_, ?_, World.ownsRow_nil _ _ _ _, ?_, ?_, by simp [Hid]⟩
    · have := HPR.out
      rw [this] at hN
      simp at hN
      omega
    · repeat (first | (with_reducible exact D6) | (with_reducible refine Blk.alloc ?_ _) | (with_reducible refine Blk.far ?_ (by simp; omega) _))
    · rw [List.length_nil]
      repeat (first | (with_reducible exact D7) | (with_reducible refine Blk.alloc ?_ _) | (with_reducible refine Blk.far ?_ (by simp; omega) _))
    · exact Blk.new _ _ _
    · repeat (first | (with_reducible exact hR4) | (with_reducible refine RD.alloc ?_ _) | (with_reducible refine RD.far ?_ hg3 _))
    · repeat (first | (with_reducible exact HK3) | (with_reducible refine Kept.alloc ?_ _) | (with_reducible refine Kept.setCell ?_ (by simp; omega) _))
    · exact hs4.kept ((Kept.refl _).alloc _)
  case round =>
    obtain ⟨j, os, VA, VC, gb, x, rfl, has, hj, rfl, rfl, HX, hgb, hvg, G6, G7, GB, hRD, hown, hk, hso, HXs⟩ := hrel
    cases hb : (attrF P j).isSome
    · have hnone : attrF P j = none := by simpa using hb
      have hjn : attrN P j = j := by unfold attrN; rw [hnone]
      rw [hjn] at hRD
      have HXs2 : Hid (attrsX P 2 = (os, j)) := by
        have := HXs.out
        rw [attrsX_none hnone, List.append_nil] at this
        exact this
      obtain ⟨VA2, VC2, hVe, hV⟩ := own_sl hown
      injection hVe with e1 e2 e3
      subst e1 e3
      have HNo := Lib.hid hnone
      clear hnone hjn HXs
      have hg5 := hRD.lt
      go_wp2_with fail
      refine (takesR_skip (hRD.alloc _) _ _ ?_).mono ?_
      · exact Sl.litg (by simp) rfl (by omega)
      rintro e w4 ⟨v4, rfl, hR5, hO5⟩
      obtain ⟨E, hE⟩ : ∃ E, j + skipN (P.drop j) = E := ⟨_, rfl⟩
      rw [hE] at hR5
      have HE := Lib.hid hE
      clear hE
      go_wp2_with fail
      cases t6 : takeF [6] (P.drop E)
      · refine (takesR_no (hR5.alloc _) _ 1 _ [6] ?_ t6).mono ?_
        · exact Sl.litg (by simp) rfl (by omega)
        rintro e w6 ⟨rfl, hR6, hO6⟩
        have L6 := (((G6.alloc _).only hO5 (by omega)).alloc _).only hO6 (by omega)
        have L7 := (((G7.alloc _).only hO5 (by omega)).alloc _).only hO6 (by omega)
        have c6 := L6.cell
        have q6 := L6.frozen
        have c7 := L7.cell
        have r0 := hR6.c0
        have r1 := hR6.c1
        have HK6 : Kept w w6 := hO6.kept ((hO5.kept (hk.alloc _) (by omega)).alloc _) (by omega)
        have HV6 : Sl w6 9 VA os.length VC (os.flatMap atrC) := by
          refine (((hV.kept ((Kept.refl _).alloc _)).only hO5 ?_).kept ((Kept.refl _).alloc _)).only hO6 ?_
          · intro hn b o e
            subst e
            have := hown.lt b rfl
            omega
          · intro hn b o e
            subst e
            have := hown.lt b rfl
            omega
        have hF := readF_shut HPR.out Hht.out HXs2.out HE.out t6
        have HF := Lib.hid hF
        clear hF
        go_wp2_with fail
        go_quiet (fail)
        all_goals go_wp2
        all_goals refine bodyPost_ret (v := .agg #[.int .i64 p1.k, .int .i64 p1.f, .int .i64 p1.t, .slice VA os.length VC, .bool false, .bool false]) ?_ rfl ?_
        · simp [results, Try.results11, go_sem, c6]
        · rw [HPe.out, HF.out]
          refine ⟨VA, VC, rfl, HV6.only (g := w.heap.size) ?_ ?_, ?_⟩
          · repeat (first | (with_reducible exact Only.refl _ _) | (with_reducible refine Only.drewN ?_ _) | (with_reducible refine Only.drew ?_) | (with_reducible refine Only.set ?_ _ _))
          · intro hn b o e
            subst e
            have := hown.lt b rfl
            omega
          · repeat (first | (with_reducible exact HK6) | (with_reducible refine Kept.drewN ?_ _) | (with_reducible refine Kept.drew ?_) | (with_reducible refine Kept.setCell ?_ (by simp) _))
      · refine (takesR_yesA (hR5.alloc _) _ 1 _ [6] ?_ (by omega) t6).mono ?_
        · exact Sl.litg (by simp) rfl (by omega)
        rintro e w6 ⟨b6, o6, c8, rfl, hs6, hb6, hR6, hO6, bo6, hb6A⟩
        have L6 := (((G6.alloc _).only hO5 (by omega)).alloc _).only hO6 (by omega)
        have L7 := (((G7.alloc _).only hO5 (by omega)).alloc _).only hO6 (by omega)
        have c6 := L6.cell
        have q6 := L6.frozen
        have c7 := L7.cell
        have r0 := hR6.c0
        have r1 := hR6.c1
        have HK6 : Kept w w6 := hO6.kept ((hO5.kept (hk.alloc _) (by omega)).alloc _) (by omega)
        have HV6 : Sl w6 9 VA os.length VC (os.flatMap atrC) := by
          refine (((hV.kept ((Kept.refl _).alloc _)).only hO5 ?_).kept ((Kept.refl _).alloc _)).only hO6 ?_
          · intro hn b o e
            subst e
            have := hown.lt b rfl
            omega
          · intro hn b o e
            subst e
            have := hown.lt b rfl
            omega
        obtain ⟨pc, hpc, hpk⟩ := takeF_one t6
        rw [one_part hpc] at hs6
        have d1 := hs6.cellAt (by omega) (i := 1) rfl
        have d2 := hs6.cellAt (by omega) (i := 2) rfl
        have hEN := (List.getElem?_eq_some_iff.1 hpc).1
        by_cases hlt : E + 1 < N
        · have hF := readF_more (E := E) HPR.out Hht.out HXs2.out HE.out (by omega)
          have HF := Lib.hid hF
          clear hF hpk
          have HPC := Lib.hid hpc
          clear hpc hs6
          go_wp2_with fail
          have hd : ((E : Int) + 1 < N) = True := by simp; omega
          go_quiet (fail)
          all_goals go_wp2
          all_goals refine bodyPost_ret (v := .agg #[.int .i64 p1.k, .int .i64 p1.f, .int .i64 p1.t, .slice VA os.length VC, .bool false, .bool false]) ?_ rfl ?_
          · simp [results, Try.results11, go_sem, c6]
          · rw [HPe.out, HF.out]
            refine ⟨VA, VC, rfl, HV6.only (g := w.heap.size) ?_ ?_, ?_⟩
            · repeat (first | (with_reducible exact Only.refl _ _) | (with_reducible refine Only.drewN ?_ _) | (with_reducible refine Only.drew ?_) | (with_reducible refine Only.set ?_ _ _))
            · intro hn b o e
              subst e
              have := hown.lt b rfl
              omega
            · repeat (first | (with_reducible exact HK6) | (with_reducible refine Kept.drewN ?_ _) | (with_reducible refine Kept.drew ?_) | (with_reducible refine Kept.setCell ?_ (by simp) _))
        · have hEN2 : E + 1 = N := by omega
          have hF := readF_right HPR.out Hht.out HXs2.out HE.out t6 (by omega) hpc
          have hso6 := (((hso.kept ((Kept.refl _).alloc _)).off hO5 (Nat.ne_of_lt hb2)).kept ((Kept.refl _).alloc _)).off hO6 (Nat.ne_of_lt hb2)
          have hb6T : b6 ≠ w.heap.size + 1 := hAp (by omega) b6 bo6 hb6A
          have u1 := hso6.cellAt (by omega) (i := 1) rfl
          have u2 := hso6.cellAt (by omega) (i := 2) rfl
          clear hso6
          have hbd6 := partsL_bd (l := l) (f := f) (t := t) (k := E) (p := pc) (by have := HLl.out; omega) (by rw [HPe.out]; exact hpc)
          have hbd0 := partsL_bd (l := l) (f := f) (t := t) (k := 0) (p := p0) (by have := HLl.out; omega) (by rw [HPe.out, HPR.out]; rfl)
          obtain ⟨D6, hD6⟩ : ∃ D, pc.t - pc.f = D := ⟨_, rfl⟩
          obtain ⟨D0, hD0⟩ : ∃ D, p0.t - p0.f = D := ⟨_, rfl⟩
          have w6' : IntKind.i64.wrap (pc.t - pc.f) = D6 := by rw [IntWalk.i64_in _ (by omega), hD6]
          have w0' : IntKind.i64.wrap (p0.t - p0.f) = D0 := by rw [IntWalk.i64_in _ (by omega), hD0]
          obtain ⟨s6, hs6e⟩ : ∃ s, (D6 == 2) = s := ⟨_, rfl⟩
          obtain ⟨s0, hs0e⟩ : ∃ s, (D0 == 1) = s := ⟨_, rfl⟩
          rw [hD6, hD0, hs6e, hs0e] at hF
          clear hD6 hD0
          have HF := Lib.hid hF
          clear hF hpk
          have HPC := Lib.hid hpc
          clear hpc hs6 hbd6 hbd0
          go_wp2_with fail
          have hd : ((E : Int) + 1 < N) = False := by simp; omega
          go_quiet (fail)
          all_goals go_wp2_with fail
          have q7 := L7.frozen
          have hn6 : (b6 = w.heap.size + 1) = False := by simp; omega
          have hn6' : (w.heap.size + 1 = b6) = False := by simp; omega
          go_region_held3 (fun w' => w'.cell? ⟨b6, o6 + 1, none⟩ = some (.int .i64 pc.f) ∧ w'.cell? ⟨b6, o6 + 2, none⟩ = some (.int .i64 pc.t) ∧ w'.frozen? ⟨w.heap.size + 1, 5, none⟩ = false) (first | go_keep | (refine ⟨?_, ?_, ?_⟩ <;> simp [go_sem, *])) (fail)
          all_goals go_wp2_with fail
          have e3 : ∀ q, ((w6.drewN q).setCell ⟨w.heap.size + 1, 5, none⟩ (.bool s6)).drew.cell? ⟨w.heap.size + 1, 3, none⟩ = some (.slice VA os.length VC) := fun q => ((show Blk (w6.drewN q) _ _ _ from L7).set 5 (.bool s6)).cell 3
          have e3' : ∀ q u, (((w6.drewN q).setCell ⟨w.heap.size + 1, 5, none⟩ (.bool s6)).setCell ⟨w.heap.size + 1, 4, none⟩ u).drew.cell? ⟨w.heap.size + 1, 3, none⟩ = some (.slice VA os.length VC) := fun q u => (((show Blk (w6.drewN q) _ _ _ from L7).set 5 (.bool s6)).set 4 u).cell 3
          have e5' : ∀ q u, (((w6.drewN q).setCell ⟨w.heap.size + 1, 5, none⟩ (.bool s6)).setCell ⟨w.heap.size + 1, 4, none⟩ u).drew.cell? ⟨w.heap.size + 1, 5, none⟩ = some (.bool s6) := fun q u => (((show Blk (w6.drewN q) _ _ _ from L7).set 5 (.bool s6)).set 4 u).cell 5
          have e5 : ∀ q, ((w6.drewN q).setCell ⟨w.heap.size + 1, 5, none⟩ (.bool s6)).drew.cell? ⟨w.heap.size + 1, 5, none⟩ = some (.bool s6) := fun q => ((show Blk (w6.drewN q) _ _ _ from L7).set 5 (.bool s6)).cell 5
          have hnb : (b = w.heap.size + 1) = False := by simp; omega
          have hnb' : (w.heap.size + 1 = b) = False := by simp; omega
          have HVT : 0 < os.length → ∀ b o, VA = some ⟨b, o, none⟩ → w.heap.size + 1 < b := fun _ b o e => by
            subst e
            have := hown.lt b rfl
            omega
          cases s0
          · by_cases hnil : os = []
            · have x2 : ((os.length : Int) == 0) = true := by rw [hnil]; rfl
              have x3 : os.isEmpty = true := by rw [hnil]; rfl
              rw [x3] at HF
              clear hnil x3
              (first | go_region_held3 (fun w' => w'.cell? ⟨b, o + 1, none⟩ = some (.int .i64 p0.f) ∧ w'.cell? ⟨b, o + 2, none⟩ = some (.int .i64 p0.t) ∧ w'.cell? ⟨w.heap.size + 1, 3, none⟩ = some (.slice VA os.length VC) ∧ w'.cell? ⟨w.heap.size + 1, 5, none⟩ = some (.bool s6) ∧ w'.frozen? ⟨w.heap.size + 1, 4, none⟩ = false) (first | go_keep | (refine ⟨?_, ?_, ?_, ?_, ?_⟩ <;> first | exact e3 _ | exact e5 _ | exact e3' _ _ | exact e5' _ _ | simp [go_sem, *])) (fail) | fail)
              cases s6
              · go_wp2
                refine bodyPost_ret (v := .agg #[.int .i64 p1.k, .int .i64 p1.f, .int .i64 p1.t, .slice VA os.length VC, .bool true, .bool false]) ?_ rfl ?_
                · simp [results, Try.results11, go_sem, c6]
                · rw [HPe.out, HF.out]
                  exact ⟨VA, VC, rfl, by repeat (first | (with_reducible exact HV6) | (with_reducible refine Sl.drewN ?_ _) | (with_reducible refine Sl.drew ?_) | (with_reducible refine Sl.above ?_ HVT (by simp) _)), by repeat (first | (with_reducible exact HK6) | (with_reducible refine Kept.drewN ?_ _) | (with_reducible refine Kept.drew ?_) | (with_reducible refine Kept.setCell ?_ (by simp) _))⟩
              · go_wp2
                refine bodyPost_ret (v := .agg #[.int .i64 p1.k, .int .i64 p1.f, .int .i64 p1.t, .slice VA os.length VC, .bool false, .bool false]) ?_ rfl ?_
                · simp [results, Try.results11, go_sem, c6]
                · rw [HPe.out, HF.out]
                  exact ⟨VA, VC, rfl, by repeat (first | (with_reducible exact HV6) | (with_reducible refine Sl.drewN ?_ _) | (with_reducible refine Sl.drew ?_) | (with_reducible refine Sl.above ?_ HVT (by simp) _)), by repeat (first | (with_reducible exact HK6) | (with_reducible refine Kept.drewN ?_ _) | (with_reducible refine Kept.drew ?_) | (with_reducible refine Kept.setCell ?_ (by simp) _))⟩
            · have x2 : ((os.length : Int) == 0) = false := by simpa using hnil
              have x3 : os.isEmpty = false := by cases os <;> simp at hnil ⊢
              rw [x3] at HF
              clear hnil x3
              first | go_region_with (fail) | go_region
              all_goals cases s6
              all_goals go_wp2
              all_goals
                refine bodyPost_ret (v := .agg #[.int .i64 p1.k, .int .i64 p1.f, .int .i64 p1.t, .slice VA os.length VC, .bool false, .bool false]) ?_ rfl ?_
                · simp [results, Try.results11, go_sem, c6]
                · rw [HPe.out, HF.out]
                  exact ⟨VA, VC, rfl, by repeat (first | (with_reducible exact HV6) | (with_reducible refine Sl.drewN ?_ _) | (with_reducible refine Sl.drew ?_) | (with_reducible refine Sl.above ?_ HVT (by simp) _)), by repeat (first | (with_reducible exact HK6) | (with_reducible refine Kept.drewN ?_ _) | (with_reducible refine Kept.drew ?_) | (with_reducible refine Kept.setCell ?_ (by simp) _))⟩
          · first | go_region_with (fail) | go_region
            cases s6
            · go_wp2
              refine bodyPost_ret (v := .agg #[.int .i64 p1.k, .int .i64 p1.f, .int .i64 p1.t, .slice VA os.length VC, .bool true, .bool false]) ?_ rfl ?_
              · simp [results, Try.results11, go_sem, c6]
              · rw [HPe.out, HF.out]
                exact ⟨VA, VC, rfl, by repeat (first | (with_reducible exact HV6) | (with_reducible refine Sl.drewN ?_ _) | (with_reducible refine Sl.drew ?_) | (with_reducible refine Sl.above ?_ HVT (by simp) _)), by repeat (first | (with_reducible exact HK6) | (with_reducible refine Kept.drewN ?_ _) | (with_reducible refine Kept.drew ?_) | (with_reducible refine Kept.setCell ?_ (by simp) _))⟩
            · go_wp2
              refine bodyPost_ret (v := .agg #[.int .i64 p1.k, .int .i64 p1.f, .int .i64 p1.t, .slice VA os.length VC, .bool true, .bool true]) ?_ rfl ?_
              · simp [results, Try.results11, go_sem, c6]
              · rw [HPe.out, HF.out]
                exact ⟨VA, VC, rfl, by repeat (first | (with_reducible exact HV6) | (with_reducible refine Sl.drewN ?_ _) | (with_reducible refine Sl.drew ?_) | (with_reducible refine Sl.above ?_ HVT (by simp) _)), by repeat (first | (with_reducible exact HK6) | (with_reducible refine Kept.drewN ?_ _) | (with_reducible refine Kept.drew ?_) | (with_reducible refine Kept.setCell ?_ (by simp) _))⟩
    · have hjN : j + 4 ≤ attrN P j ∧ attrN P j ≤ P.length := by
        obtain ⟨r, hr⟩ := Option.isSome_iff_exists.1 hb
        have := attrF_lt (a := r.1) (N := r.2) hr
        unfold attrN
        rw [hr]
        exact this
      have HB := Lib.hid hb
      clear hb
      have f7 := G7.cell
      have g7 := G7.frozen
      have fB := GB.cell
      have h7B : (gb = w.heap.size + 1) = False := by simp; omega
      have hB7 : (w.heap.size + 1 = gb) = False := by simp; omega
      have lB := GB.lt
      have l7' := G7.lt
      clear hN
      go_wp2_with (at_builtin; refine wpList_app (by rfl) _ _ (by rfl) appT_atr (by rfl) (hown.alloc _) (by rfl) (Sl.litg (by rfl) ?_ (by omega)) ?_ ?_ ?_ ?_; (exact rfl); (exact rfl); (have := HN.out; omega); (simp; omega); (intro v' w' hown' hgr hob; obtain ⟨VA', VC', rfl, hVs⟩ := own_sl hown'; have hv7 : some (w.heap.size + 1) ≠ (Value.slice VA os.length VC).ownBlock := (fun e => by have := hown.lt _ e.symm; omega); have hv6 : some w.heap.size ≠ (Value.slice VA os.length VC).ownBlock := (fun e => by have := hown.lt _ e.symm; omega); have J7 := (G7.alloc _).grown hgr hv7; have J6 := (G6.alloc _).grown hgr hv6; have JB := (GB.alloc _).grown hgr (Ne.symm hvg); have j7 := J7.cell; have q7 := J7.frozen; have jB := JB.cell))
      have hvg5 : some w1.heap.size ≠ (Value.slice VA os.length VC).ownBlock := fun e => by have := hown.lt _ e.symm; omega
      have hRD5 := (((hRD.alloc (.cells #[.int .i64 x.name.k, .int .i64 x.name.f, .int .i64 x.name.t, .int .i64 x.value.k, .int .i64 x.value.f, .int .i64 x.value.t, .int .i64 x.all.k, .int .i64 x.all.f, .int .i64 x.all.t] 45)).grown hgr hvg5 (fun hn b o e e2 => by
        have := hRD.lo hn b o e
        have := hown.lt _ e2.symm
        omega)).apart (p := ⟨w.heap.size + 1, 3, none⟩) hgt hAp (.slice VA' (os.length + 1) VC')).alloc (.cells #[.int .i64 x.name.k, .int .i64 x.name.f, .int .i64 x.name.t, .int .i64 x.value.k, .int .i64 x.value.f, .int .i64 x.value.t, .int .i64 x.all.k, .int .i64 x.all.f, .int .i64 x.all.t] 45)
      have hgr0 := hgr
      have hsz := World.grownBy.size hgr
      simp at hsz
      refine (attr_any hRD5).mono ?_
      rintro e w5 ⟨rfl, hRD6, hO6⟩
      have K6 := ((J6.far (p := ⟨w.heap.size + 1, 3, none⟩) (by simp) (.slice VA' (os.length + 1) VC')).alloc (.cells #[.int .i64 x.name.k, .int .i64 x.name.f, .int .i64 x.name.t, .int .i64 x.value.k, .int .i64 x.value.f, .int .i64 x.value.t, .int .i64 x.all.k, .int .i64 x.all.f, .int .i64 x.all.t] 45)).only hO6 (by omega)
      have K7 := ((J7.set 3 (.slice VA' (os.length + 1) VC')).alloc (.cells #[.int .i64 x.name.k, .int .i64 x.name.f, .int .i64 x.name.t, .int .i64 x.value.k, .int .i64 x.value.f, .int .i64 x.value.t, .int .i64 x.all.k, .int .i64 x.all.f, .int .i64 x.all.t] 45)).only hO6 (by omega)
      have KB := (Blk.new (w'.setCell ⟨w.heap.size + 1, 3, none⟩ (.slice VA' (os.length + 1) VC')) #[.int .i64 x.name.k, .int .i64 x.name.f, .int .i64 x.name.t, .int .i64 x.value.k, .int .i64 x.value.f, .int .i64 x.value.t, .int .i64 x.all.k, .int .i64 x.all.f, .int .i64 x.all.t] 45).only hO6 (by simp; omega)
      simp only [List.setIfInBounds_toArray, List.set_cons_zero, List.set_cons_succ] at K7
      simp at KB
      have hkown : w5.ownsRow (w1.heap.size + 1) 45 9 (.slice VA' (os.length + 1) VC') (os.length + 1) _ := own_grown ((own_far hown' rfl (by intro e; have := hown'.lt _ e; simp at this; omega) _).alloc _) hO6 (by intro e; have := hown'.lt _ e; omega)
      have hk5 : Kept w w5 := hO6.kept ((((hk.alloc _).grown hgr (fun k e => by have := hown.lt k e; omega)).setCell (p := ⟨w.heap.size + 1, 3, none⟩) (by simp) _).alloc _) (by omega)
      have hso5 := (((hso.kept ((Kept.refl _).alloc _)).grown hgr (fun _ b1 o1 e e2 => by injection e with e; injection e with e1 e3; subst e1; have := hown.lt _ e2.symm; omega)).off ((Only.refl (w.heap.size + 1) w').set 3 (.slice VA' (os.length + 1) VC')) hbT |>.kept ((Kept.refl _).alloc _)).off hO6 (Nat.ne_of_lt hb2)
      have hvg6 : (Value.slice VA' (os.length + 1) VC').ownBlock ≠ some w'.heap.size := fun e => by have := hown'.lt _ e; omega
      have hgw : w1.heap.size < w'.heap.size := by omega
      obtain ⟨y, hy⟩ : ∃ y, attrA P (attrN P j) = y := ⟨_, rfl⟩
      rw [hy]
      have HY := Lib.hid hy
      obtain ⟨⟨ak, af, at_⟩, ⟨bk, bf, bt⟩, ⟨ck, cf, ct⟩⟩ := y
      simp only [atrC, prtC, List.cons_append, List.nil_append]
      clear hy hRD5 J6 J7 JB j7 q7 jB f7 g7 fB hown hgr hob hgr0 hVs hown' GB G6 G7 hRD
      have fK := KB.cell
      have gK := KB.frozen
      go_wp2
      go_roundg (P.length - attrN P j)
      case rel =>
        have hlen1 : (os ++ [x]).length = os.length + 1 := by simp
        have hfl : (os ++ [x]).flatMap atrC = os.flatMap atrC ++ [.int .i64 x.name.k, .int .i64 x.name.f, .int .i64 x.name.t, .int .i64 x.value.k, .int .i64 x.value.f, .int .i64 x.value.t, .int .i64 x.all.k, .int .i64 x.all.f, .int .i64 x.all.t] := by simp [atrC, prtC]
        refine ⟨attrN P j, os ++ [x], VA', VC', w'.heap.size, _, rfl, by rw [hlen1]; omega, by have := HN.out; omega, rfl, rfl, HY, hgw, by rw [hlen1]; exact hvg6, ?_, ?_, ?_, ?_, ?_, ?_, ?_, ?_⟩
        · repeat (first | (with_reducible exact K6) | (with_reducible refine Blk.far ?_ (by simp; omega) _))
        · rw [hlen1]
          repeat (first | (with_reducible exact K7) | (with_reducible refine Blk.far ?_ (by simp; omega) _))
        · exact KB.over9 _ _ _ _ _ _ _ _ _
        · repeat (first | (with_reducible exact hRD6) | (with_reducible refine RD.far ?_ hgw _))
        · rw [hlen1, hfl]
          repeat (first | (with_reducible exact hkown) | (with_reducible refine own_far ?_ rfl hvg6 _))
        · repeat (first | (with_reducible exact hk5) | (with_reducible refine Kept.setCell ?_ (by simp; omega) _))
        · refine hso5.off (g := w'.heap.size) ?_ (by omega)
          repeat (first | (with_reducible exact Only.refl _ _) | (with_reducible refine Only.set ?_ _ _))
        · have hs : (attrF P j).isSome = true := HB.out
          obtain ⟨r, hr⟩ := Option.isSome_iff_exists.1 hs
          have h1 : attrN P j = r.2 := by unfold attrN; rw [hr]
          have h2 : x = r.1 := by rw [← HX.out]; unfold attrA; rw [hr]
          have := attrsX_some (a := r.1) (N := r.2) hr
          rw [this] at HXs
          rw [h1, h2]
          simpa [Hid] using HXs
      case measure => omega
end Go.Proofs.Ytbebmmohambngaa
