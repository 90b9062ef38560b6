/- The law SpanSorted, walked. -/
import Derived.Test.YtdcigdkeakiknaaSpsJ
import Derived.Test.YtdcigdkeakiknaaSpsK
import Derived.Test.YtdcigdkeakiknaaSpanA
import Derived.Deep.RegionHeld3
namespace Go.Proofs.Ytdcigdkeakiknaa
open Go.RowKit
attribute [local go_sem ↓] Go.wp_at_zero Go.wp_at_succ

theorem oursK_any (f t : Int) (w : World) : Calls Try.prog 12 #[.agg #[.int .i64 f, .int .i64 t]] w fun e w' => e = .returned (.agg #[.int .i64 f, .int .i64 t]) ∧ Kept w w' := by
  refine (ours_any f t w).mono ?_
  rintro e w' ⟨he, rfl⟩
  exact ⟨he, ((Kept.refl _).alloc _).alloc _⟩
set_option maxHeartbeats 8000000 in
theorem spanSorted_any (A : Option Addr) (n c : Nat) (L : List Dg) (w : World) (h : Sl w 3 A n c (L.flatMap Dg.cells)) :
    Calls Try.prog 8 #[.slice A n c] w fun e w' => e = .returned (.bool true) ∧ Kept w w' := by
  have hL := h.llen (enc := Dg.cells) (fun _ => rfl) (by omega)
  have HL := Lib.hid hL
  have hcap := h.cap
  have hmax := h.max
  clear hL
  go_enter Try.func8, Try.ntmps8
  go_wp2_with fail
  go_loopw [3, 12] (fun v i wr => ∃ k j : Nat, k ≤ n ∧ i = .int .i64 k ∧ Hid (j = min k 30) ∧ wr.ownsRow w.heap.size 52 3 v j ((L.take j).flatMap Dg.cells) ∧ Kept w wr) (fun _ i _ => n - (intOf i).toNat)
  case atStart => exact ⟨0, 0, Nat.zero_le _, rfl, rfl, ⟨rfl, .inl ⟨rfl, rfl⟩⟩, Kept.refl _⟩
  case round =>
    obtain ⟨k, j, hk, rfl, HJ, hown, hkept⟩ := hrel
    by_cases hlt : k < n
    · obtain ⟨b, o, x, rfl, hx, x0, x1, x2, hb⟩ := (h.kept hkept).elemd hlt
      have HX := Lib.hid hx
      clear hx
      have kb : Kept wr _ := (Kept.refl wr).alloc (.cells #[.int .i64 x.f, .int .i64 x.t, .int .i64 x.k] 50)
      have bx := Blk.new wr #[.int .i64 x.f, .int .i64 x.t, .int .i64 x.k] 50
      by_cases h30 : k < 30
      · have d1 : (k : Int) < 30 := by omega
        have hj30 : j ≤ 30 := by have := HJ.out; omega
        go_upto_region 6 with fail
        generalize wr.alloc (.cells #[.int .i64 x.f, .int .i64 x.t, .int .i64 x.k] 50) = w3 at kb bx ⊢
        obtain ⟨g3, hg3⟩ : ∃ g3, wr.heap.size = g3 := ⟨_, rfl⟩
        have n10 : some g3 ≠ u3.ownBlock := by
          intro e
          have := hown.lt _ e.symm
          omega
        rw [hg3] at bx ⊢
        clear hg3
        have own3 := own_kept hown kb
        have k3 := hkept.trans kb
        have b0 : w3.cell? ⟨g3, 0, none⟩ = some (.int .i64 x.f) := bx.cell 0
        have b1 : w3.cell? ⟨g3, 1, none⟩ = some (.int .i64 x.t) := bx.cell 1
        have b2 : w3.cell? ⟨g3, 2, none⟩ = some (.int .i64 x.k) := bx.cell 2
        have HO := Lib.hid (fun w => oursK_any x.f x.t w)
        clear d1
        go_region_held3 (fun w' => w'.cell? ⟨g3, 0, none⟩ = some (.int .i64 x.f) ∧ w'.cell? ⟨g3, 1, none⟩ = some (.int .i64 x.t) ∧ w'.cell? ⟨g3, 2, none⟩ = some (.int .i64 x.k)) (first | go_keep | exact ⟨hk4.cell b0, hk4.cell b1, hk4.cell b2⟩ | exact ⟨grown_cell hgr5 (((Kept.refl _).alloc _).cell (hk4.cell b0)) n10, grown_cell hgr5 (((Kept.refl _).alloc _).cell (hk4.cell b1)) n10, grown_cell hgr5 (((Kept.refl _).alloc _).cell (hk4.cell b2)) n10⟩)
          (first
          | (go_at_call 12; refine (HO.out _).mono ?_; rintro e w4 ⟨rfl, hk4⟩)
          | (refine step_app w (by rfl) _ _ (by rfl) appT_dgs (by rfl) ((own_kept own3.drew hk4).alloc _) ((k3.drew.trans hk4).alloc _) (by rfl) (Sl.litg (by rfl) (by rfl) (by omega)) ⟨by rfl, by omega⟩ ?_; intro v' w5 hown5 hk5 hgr5 hob5))
        go_wp2_with fail
        go_roundw
        case rel =>
          have hj := HJ.out
          refine ⟨k + 1, j + 1, hlt, by go_num, by unfold Hid; omega, ?_, hk5⟩
          have e : L.take (j + 1) = L.take j ++ [x] := by
            rw [show j = k by omega, List.take_add_one, HX.out]
            rfl
          rw [e, List.flatMap_append]
          exact hown5
        case measure =>
          simp [intOf]
          omega
      · have d1 : ¬ (k : Int) < 30 := by omega
        go_wp2_with fail
        go_roundw
        case rel =>
          have hj := HJ.out
          exact ⟨k + 1, j, hlt, by go_num, by unfold Hid; omega, own_kept hown kb, hkept.trans kb⟩
        case measure =>
          simp [intOf]
          omega
    · obtain rfl : k = n := by omega
      have hj := HJ.out
      have hjn : j ≤ k := by omega
      have hj30 : j ≤ 30 := by omega
      obtain ⟨VA, VC, rfl, hV⟩ := Sl.of_own hown
      have hA := h.kept hkept
      have hT := hA.to (m := j) hjn
      rw [flat_dg] at hT
      have r1 := run_cut_h appT_rdgs A k c j (by omega)
      have HC1 : Hid (∀ w', Kept wr w' → Calls Try.prog 19 #[.slice VA j VC] w' fun e w'' => SortedTo w' j (L.take j) e w'') := fun w' hk' => sorted_any VA j VC (L.take j) w' (hV.kept hk') hj30
      have HC2 : Hid (∀ w', Kept wr w' → Calls Try.prog 20 #[.slice A j c] w' fun e w'' => RSortedTo w' j (L.take j) e w'') := fun w' hk' => rsorted_any A j c (L.take j) w' (hT.kept hk') hj30
      have p1 : (0 : Int) ≤ j := by omega
      have p2 : (j : Int) ≤ k := by omega
      have p3 : (j : Int) ≤ c := by omega
      have kd := (Kept.refl wr).drew
      clear hj hown hV hA hT HJ
      go_upto_region 8 with fail
      go_cut [6, 7] (fun u v wx => ∃ (UA : Option Addr) (UC : Nat) (RA : Option Addr) (RC : Nat) (R : List Dg), u = .slice UA j UC ∧ v = .slice RA j RC ∧ Hid (Sl wx 3 UA j UC (R.flatMap Dg.cells) ∧ Sl wx 3 RA j RC (R.flatMap Dg.cells)) ∧ Kept w wx)
      case first =>
        go_region_with (first
          | (go_at_call 19; refine (HC1.out _ (by first | with_reducible exact kd | with_reducible exact kd.trans (by assumption))).mono ?_; rintro e w4 ⟨hk4, UA, UC, U, rfl, hU, pU, oU⟩)
          | (go_at_call 20; refine (HC2.out _ (by first | with_reducible exact kd | with_reducible exact kd.trans (by assumption))).mono ?_; rintro e w5 ⟨hk5, RA, RC, R, rfl, hR, pR, oR⟩))
        all_goals
          go_wp2_with fail
          obtain rfl : U = R := order_one ltD_strict (pU.trans pR.symm) oU oR
          go_meet
          first
          | exact ⟨UA, UC, RA, RC, U, rfl, rfl, ⟨hU.kept hk5, hR⟩, hkept.trans ((kd.trans hk4).trans hk5)⟩
          | exact ⟨UA, UC, RA, RC, U, rfl, rfl, ⟨hU, hR.kept hk4⟩, hkept.trans ((kd.trans hk5).trans hk4)⟩
      case rest =>
        obtain ⟨UA, UC, RA, RC, R, rfl, rfl, HS, hkc⟩ := hcut
        have oc := HS.out.1.cap
        have om := HS.out.1.max
        have oc2 := HS.out.2.cap
        have om2 := HS.out.2.max
        have d0 : ((j : Int) != (j : Int)) = false := by simp
        clear HC1 HC2 kd p1 p2 p3 r1 hkept
        go_wp2_with fail
        go_loopw [43] (fun i wq => ∃ q : Nat, q ≤ j ∧ i = .int .i64 q ∧ Kept wc wq) (fun i _ => j - (intOf i).toNat)
        case atStart => exact ⟨0, Nat.zero_le _, rfl, Kept.refl _⟩
        case round =>
          obtain ⟨q, hq, rfl, hkq⟩ := hrel
          by_cases hlt2 : q < j
          · obtain ⟨b, o, x, rfl, hx, x0, x1, x2, hb⟩ := (HS.out.2.kept hkq).elemd hlt2
            have kb : Kept wr _ := (Kept.refl wr).alloc (.cells #[.int .i64 x.f, .int .i64 x.t, .int .i64 x.k] 50)
            have bx := Blk.new wr #[.int .i64 x.f, .int .i64 x.t, .int .i64 x.k] 50
            obtain ⟨b2, o2, x', rfl, hx', y0, y1, y2, hb2⟩ := ((HS.out.1.kept hkq).kept kb).elemd hlt2
            obtain rfl : x = x' := by rw [hx] at hx'; exact Option.some.inj hx'
            clear hx hx'
            go_upto_region 14 with fail
            generalize wr.alloc (.cells #[.int .i64 x.f, .int .i64 x.t, .int .i64 x.k] 50) = w3 at kb bx y0 y1 y2 hb2 ⊢
            obtain ⟨g3, hg3⟩ : ∃ g3, wr.heap.size = g3 := ⟨_, rfl⟩
            rw [hg3] at bx ⊢
            clear hg3
            have c0 : ∀ p : KeptFrom w3, p.x.cell? ⟨g3, 0, none⟩ = some (.int .i64 x.f) := fun p => (bx.kept p.k).cell 0
            have c1 : ∀ p : KeptFrom w3, p.x.cell? ⟨g3, 1, none⟩ = some (.int .i64 x.t) := fun p => (bx.kept p.k).cell 1
            have c2 : ∀ p : KeptFrom w3, p.x.cell? ⟨g3, 2, none⟩ = some (.int .i64 x.k) := fun p => (bx.kept p.k).cell 2
            have e0 : ∀ p : KeptFrom w3, p.x.cell? ⟨b2, o2 + q * 3, none⟩ = some (.int .i64 x.f) := fun p => p.k.cell y0
            have e1 : ∀ p : KeptFrom w3, p.x.cell? ⟨b2, o2 + q * 3 + 1, none⟩ = some (.int .i64 x.t) := fun p => p.k.cell y1
            have e2 : ∀ p : KeptFrom w3, p.x.cell? ⟨b2, o2 + q * 3 + 2, none⟩ = some (.int .i64 x.k) := fun p => p.k.cell y2
            have HO := Lib.hid (fun w => oursK_any x.f x.t w)
            have l0 : (0 : Int) ≤ (q : Int) := by omega
            have l1 : (q : Int) < j := by omega
            clear x0 x1 x2 y0 y1 y2
            refine wp_region_kept (by kernel_rfl) (by kernel_rfl) ?_
            repeat (quiet_step ((go_at_call 12; with_reducible exact Calls.kept_of (HO.out _))))
            refine wpQuiet_nil ?_
            rintro w4 ⟨⟨w4', k4⟩, hw4⟩
            obtain rfl : w4 = w4' := hw4
            go_wp2_with fail
            go_roundw
            case rel => exact ⟨q + 1, hlt2, by go_num, (hkq.trans kb).trans k4⟩
            case measure =>
              simp [intOf]
              omega
          · obtain rfl : q = j := by omega
            go_wp2_with fail
            refine (awake_any _).mono ?_
            rintro e w6 ⟨rfl, k6⟩
            go_wp2_with fail
            go_ret
            exact ⟨rfl, (hkc.trans hkq).trans k6⟩
end Go.Proofs.Ytdcigdkeakiknaa
