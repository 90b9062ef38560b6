/- The document's Pieces (layer 14): walked. -/
import Derived.Test.YtennpgdoepdboaaRefsZ
import Derived.Test.YtennpgdoepdboaaRefsG
namespace Go.Proofs.Ytennpgdoepdboaa
open Go.RowKit
attribute [local go_sem ↓] Go.wp_at_zero Go.wp_at_succ

theorem appT_rpc : AppT Try.prog 26 29 5 := appT_mk (z := .agg #[.int .i64 0, .int .i64 0, .int .i64 0, .int .i32 0, .string ⟨#[]⟩]) (bytes := 48) Try.underlying26 (by kernel_rfl) rfl (by omega) (by omega)
set_option maxHeartbeats 16000000 in
set_option maxRecDepth 100000 in
theorem rpieces_any (A : Option Addr) (n c : Nat) (l : List Int) (w : World) (h : Sl w 1 A n c (l.map (Value.int .i32))) (hn : n ≤ 1000000) (hr : Rn l) :
    Calls Try.prog 12 #[.slice A n c] w fun e w' => ∃ VA VC, e = .returned (.slice VA (pcsX l 0).length VC) ∧ Sl w' 5 VA (pcsX l 0).length VC ((pcsX l 0).flatMap pcE) ∧ Kept w w' := by
  have hcap := h.cap
  have hmax := h.max
  have HL := Lib.hid h.llen1
  go_enter Try.func12, Try.ntmps12
  go_wp2_with fail
  go_loopw [3, 4] (fun v u wr => ∃ (a : Nat) (D : List (Pc × Nat)) (VA : Option Addr) (VC : Nat), a ≤ n ∧ u = .int .i64 a ∧ v = .slice VA D.length VC ∧ D.length ≤ a ∧ wr.ownsRow w.heap.size 29 5 (.slice VA D.length VC) D.length (D.flatMap pcE) ∧ Kept w wr ∧ Hid (pcsX l 0 = D ++ pcsX l a))
    (fun _ u _ => n - (intOf u).toNat)
  case atStart => exact ⟨0, [], none, 0, Nat.zero_le _, rfl, rfl, Nat.le_refl _, World.ownsRow_nil _ _ _ _, Kept.refl _, rfl⟩
  case round =>
    obtain ⟨a, D, VA, VC, han, rfl, rfl, hD, hown, hk, hinv⟩ := hrel
    by_cases hp : a < n
    · obtain ⟨b, o, x, rfl, hx, hcx, hb⟩ := (h.kept hk).oneb (k := a) hp
      have l0 : (0 : Int) ≤ a := by omega
      have l1 : (a : Int) < n := by omega
      have hc := Lib.hid (pcsX_cons (l := l) (a := a) (by have := HL.out; omega))
      have hne : l.drop a ≠ [] := by
        intro e
        have := congrArg List.length e
        rw [List.length_drop, List.length_nil] at this
        have := HL.out
        omega
      have hp1 := pieceF_len hne
      have hp2 := pieceF_le hne
      rw [List.length_drop, HL.out] at hp2
      have h0x : (l.drop a)[0]? = some x := by rw [List.getElem?_drop, Nat.add_zero]; exact hx
      have hpdef : pieceF (l.drop a) = if x = 38 then (if (refT (l.drop a)).1 = 3 then (if 0 ≤ numberF ((l.drop a).take (refT (l.drop a)).2) then ⟨2, (refT (l.drop a)).2, numberF ((l.drop a).take (refT (l.drop a)).2), ⟨#[]⟩⟩ else ⟨4, (refT (l.drop a)).2, 0, ⟨#[]⟩⟩)
          else if (refT (l.drop a)).1 = 2 then ⟨3, (refT (l.drop a)).2, 0, nameB (((l.drop a).drop 1).take ((refT (l.drop a)).2 - 2))⟩ else ⟨4, 1, 0, ⟨#[]⟩⟩) else ⟨1, runF (fun x => x != 38) (l.drop a), 0, ⟨#[]⟩⟩ := by
        unfold pieceF
        rw [h0x]
        by_cases hx38 : x = 38
        · subst hx38
          rw [if_pos rfl, if_pos rfl]
        · rw [if_neg (by simpa using hx38), if_neg hx38]
      obtain ⟨P, hP⟩ : ∃ P, pieceF (l.drop a) = P := ⟨_, rfl⟩
      rw [hP] at hc hp1 hp2 hpdef
      have HPD := Lib.hid hpdef
      have HXA := Lib.hid hx
      obtain ⟨g, hg⟩ : ∃ g, wr.heap.size = g := ⟨_, rfl⟩
      have hge : w.heap.size ≤ g := by rw [← hg]; exact hk.size
      have hvb : (Value.slice VA D.length VC).ownBlock ≠ some g := by
        intro e
        have := hown.lt _ e
        omega
      have hB0 := Blk.new wr #[.int .i64 1, .int .i64 a, .int .i64 a, .int .i32 0, .string ⟨#[]⟩] 29
      rw [hg] at hB0
      have hkA := hk.alloc (.cells #[.int .i64 1, .int .i64 a, .int .i64 a, .int .i32 0, .string ⟨#[]⟩] 29)
      have hownA := hown.alloc (.cells #[.int .i64 1, .int .i64 a, .int .i64 a, .int .i32 0, .string ⟨#[]⟩] 29)
      have HG := Lib.hid hg
      clear hx h0x hpdef hP hne
      go_upto_region 5 with fail
      generalize wr.alloc (.cells #[.int .i64 1, .int .i64 a, .int .i64 a, .int .i32 0, .string ⟨#[]⟩] 29) = w2 at hB0 hkA hownA ⊢
      obtain ⟨R, hR⟩ : ∃ R, runF (fun x => x != 38) (l.drop a) = R := ⟨_, rfl⟩
      have hRle := runF_le (fun x => x != 38) (l.drop a)
      rw [List.length_drop, HL.out, hR] at hRle
      have HRR := Lib.hid hR
      clear hR hown
      go_loopg [15] (n - a) (fun gq s15 wq => ∃ j : Nat, gq = n - a - j ∧ a + j ≤ n ∧ Blk wq g #[.int .i64 1, .int .i64 a, .int .i64 ((a : Int) + j), .int .i32 0, .string ⟨#[]⟩] 29 ∧ wq.ownsRow w.heap.size 29 5 (.slice VA D.length VC) D.length (D.flatMap pcE) ∧ Kept w wq ∧ Hid (R = j + runF (fun x => x != 38) (l.drop (a + j))))
      case atStart => exact ⟨0, by omega, by omega, by simpa using hB0, hownA, hkA, by unfold Hid; rw [Nat.zero_add, Nat.add_zero]; exact HRR.out.symm⟩
      case round =>
        obtain ⟨j, hq, haj, Bq, hownq, hkq, hinj⟩ := hrel
        have f9 := Bq.cell
        have g9 := Bq.frozen
        by_cases hpj : a + j < n
        · obtain ⟨b', o', y, hAe, hy, hcy, hby⟩ := (h.kept hkq).oneb (k := a + j) hpj
          injection hAe with hAe
          injection hAe with hAe1 hAe2
          subst hAe1 hAe2
          have j0 : (0 : Int) ≤ (a : Int) + j := by omega
          have j1 : (a : Int) + j < n := by omega
          have j2 : ((a : Int) + j).toNat = a + j := by omega
          have d1 : decide ((a : Int) + j < n) = true := by simp; omega
          have wj : IntKind.i64.wrap ((a : Int) + j + 1) = (a : Int) + j + 1 := IntWalk.i64_in _ (by omega)
          by_cases hy38 : y = 38
          · subst hy38
            have hRj : R = j := by rw [hinj.out, runF_no hy (by decide)]; rfl
            subst hRj
            clear hy
            have Bp := Bq
            have hownp := hownq
            have hkp := hkq
            clear Bq hownq hkq f9 g9 hB0 hkA hownA hq hinj
            obtain ⟨b2, o2, x2, hA2, hx2, hcx2, hb2⟩ := (h.kept hkp).oneb (k := a) hp
            injection hA2 with hA2
            injection hA2 with hA2a hA2b
            subst hA2a hA2b
            obtain rfl : x2 = x := by rw [HXA.out] at hx2; injection hx2 with hx2; exact hx2.symm
            clear hx2
            have fp := Bp.cell
            have gp := Bp.frozen
            go_upto_if 35 with fail
            go_cut [3] (fun v wx => v = .slice VA D.length VC ∧ Blk wx g #[.int .i64 P.kind, .int .i64 a, .int .i64 ((a : Int) + P.len), .int .i32 P.r, .string P.name] 29 ∧ wx.ownsRow w.heap.size 29 5 (.slice VA D.length VC) D.length (D.flatMap pcE) ∧ Kept w wx)
            case first =>
                by_cases hx38 : x2 = 38
                rotate_left
                · have hPP : P = ⟨1, R, 0, ⟨#[]⟩⟩ := by rw [HPD.out, if_neg hx38, HRR.out]
                  subst hPP
                  have d38 : (x2 == 38) = false := by simpa using hx38
                  go_wp2_with fail
                  go_meet
                  exact ⟨rfl, Bp, hownp, hkp⟩
                · subst hx38
                  obtain ⟨AA, hAA⟩ : ∃ AA, (some (⟨b, o, none⟩ : Addr)) = AA := ⟨_, rfl⟩
                  rw [hAA] at h ⊢
                  have HAA := Lib.hid hAA
                  clear hAA
                  have h38 : l[a]? = some 38 := HXA.out
                  have hne : l.drop a ≠ [] := by
                    intro e
                    have := congrArg List.length e
                    rw [List.length_drop, List.length_nil] at this
                    have := HL.out
                    omega
                  have hP2 := HPD.out
                  rw [if_pos rfl] at hP2
                  have hle := refT_le hne
                  rw [List.length_drop, HL.out] at hle
                  have h1 := refT_len (l.drop a)
                  have hkk := refT_kinds (l.drop a)
                  have hvr := lead_vr (s := l.drop (a + 1))
                  have h0 : (l.drop a)[0]? = some 38 := by rw [List.getElem?_drop, Nat.add_zero]; exact h38
                  have hnext := fun w' (hk' : Kept w w') => rnext_any _ n c l a w' (h.kept hk') hn hp h38 hr
                  unfold tokC at hnext
                  rw [show (l.drop a).drop 1 = l.drop (a + 1) from List.drop_drop ..] at hP2 hkk
                  obtain ⟨tk, tt, hT⟩ : ∃ tk tt, refT (l.drop a) = (tk, tt) := ⟨_, _, rfl⟩
                  rw [hT] at hnext hP2 hle h1 hkk
                  dsimp only at hnext hP2 hle h1 hkk
                  rw [← Int.natCast_add] at hnext
                  obtain ⟨E, hE⟩ : ∃ E, a + tt = E := ⟨_, rfl⟩
                  rw [hE] at hnext
                  have HEE : Hid ((a : Int) + tt = E) := by unfold Hid; omega
                  have HE2 := Lib.hid hE
                  clear hT hne
                  have hnum := fun (hA : a = a) w' (hk' : Kept w w') => rnumber_any (cutA AA c a 1) (a + tt - a) (c - a) ((l.drop a).take (a + tt - a)) w' ((h.kept hk').cut1 (i := a) (m := a + tt) (by omega) (by omega)) (by omega) (by rw [List.getElem?_take, if_pos (by omega)]; exact h0) ((hr.drop _).take _)
                  rw [show (l.drop a).take (a + tt - a) = (l.drop a).take tt by rw [Nat.add_sub_cancel_left]] at hnum
                  rw [hE] at hnum
                  have q1 : (a : Int) ≤ (E : Int) := by omega
                  have q2 : (E : Int) ≤ c := by omega
                  have q3 : (0 : Int) ≤ (E : Int) := by omega
                  have hcut1 := run_cut_lh appT_runes AA n c a E (by omega) (by omega)
                  obtain ⟨NF, hNF⟩ : ∃ z, numberF ((l.drop a).take tt) = z := ⟨_, rfl⟩
                  rw [hNF] at hnum hP2
                  obtain ⟨tb, htb⟩ : ∃ b, (tk != 11) = b := ⟨_, rfl⟩
                  rw [htb] at hnext
                  have HNX := Lib.hid hnext
                  have HNM := Lib.hid (hnum rfl)
                  clear hnext hnum htb hNF h0 hE
                  by_cases k3 : tk = 3
                  · subst k3
                    rw [if_pos rfl] at hP2
                    clear hkk hvr
                    go_wp2_with fail
                    refine (HNX.out _ hkp).mono ?_
                    rintro e w5 ⟨rfl, k5⟩
                    have hk5 := hkp.trans k5
                    have B5 := ((Bp.kept k5).alloc (.cells #[.int .i64 3, .int .i64 a, .int .i64 (E : Int), .bool tb] 49))
                    have T5 := Blk.new w5 #[.int .i64 3, .int .i64 a, .int .i64 (E : Int), .bool tb] 49
                    have own5 := (own_kept hownp k5).alloc (.cells #[.int .i64 3, .int .i64 a, .int .i64 (E : Int), .bool tb] 49)
                    have hk5a := hk5.alloc (.cells #[.int .i64 3, .int .i64 a, .int .i64 (E : Int), .bool tb] 49)
                    have hgl := (Bp.kept k5).lt
                    have hn1 : (g = w5.heap.size) = False := by simp; omega
                    have hn2 : (w5.heap.size = g) = False := by simp; omega
                    have hne5 : w5.heap.size ≠ g := by omega
                    go_upto_region 9 with fail
                    generalize w5.alloc (.cells #[.int .i64 3, .int .i64 a, .int .i64 (E : Int), .bool tb] 49) = w6 at B5 T5 own5 hk5a ⊢
                    have f5 := B5.cell
                    have g5 := B5.frozen
                    have ft5 := T5.cell
                    have gt5 := T5.frozen
                    have B6 := B5.over5 (.int .i64 4) (.int .i64 a) (.int .i64 (E : Int)) (.int .i32 0) (.string ⟨#[]⟩)
                    clear k5 Bp hownp hkp
                    by_cases hn0 : 0 ≤ NF
                    · have dn : decide (0 ≤ NF) = true := by simpa using hn0
                      rw [if_pos hn0] at hP2
                      subst hP2
                      go_wp2_with fail
                      refine (HNM.out _ (by repeat (first | (with_reducible exact hk5a) | (with_reducible refine Kept.setCell ?_ hge _) | (with_reducible refine Kept.alloc ?_ _) | (with_reducible refine Kept.drew ?_)))).mono ?_
                      rintro e w7 ⟨rfl, k7⟩
                      have hk7 : Kept w w7 := (by repeat (first | (with_reducible exact hk5a) | (with_reducible refine Kept.setCell ?_ hge _) | (with_reducible refine Kept.alloc ?_ _) | (with_reducible refine Kept.drew ?_)) : Kept w _).trans k7
                      have B7 := B6.kept k7
                      have T6 : Blk _ w5.heap.size #[.int .i64 3, .int .i64 a, .int .i64 (E : Int), .bool tb] 49 := ((((T5.far (p := ⟨g, 0, none⟩) hne5 (.int .i64 4)).far (p := ⟨g, 1, none⟩) hne5 (.int .i64 a)).far (p := ⟨g, 2, none⟩) hne5 (.int .i64 (E : Int))).far (p := ⟨g, 3, none⟩) hne5 (.int .i32 0)).far (p := ⟨g, 4, none⟩) hne5 (.string ⟨#[]⟩)
                      have T7 := T6.kept k7
                      have own7 : w7.ownsRow w.heap.size 29 5 (.slice VA D.length VC) D.length (D.flatMap pcE) := own_kept (by repeat (first | (with_reducible exact own5) | (with_reducible refine own_far ?_ rfl hvb _))) k7
                      have f7 := B7.cell
                      have g7 := B7.frozen
                      have ft7 := T7.cell
                      have B8 := B7.set 0 (.int .i64 2)
                      simp only [List.setIfInBounds_toArray, List.set_cons_zero, List.set_cons_succ] at B8
                      have T8 := T7.far (p := ⟨g, 0, none⟩) hne5 (.int .i64 2)
                      have own8 := own_far own7 (p := ⟨g, 0, none⟩) rfl hvb (.int .i64 2)
                      have hk8 := hk7.setCell (p := ⟨g, 0, none⟩) hge (.int .i64 2)
                      go_wp2_with fail
                      refine (HNM.out _ hk8).mono ?_
                      rintro e w9 ⟨rfl, k9⟩
                      have hk9 := hk8.trans k9
                      have B9 := B8.kept k9
                      have T9 := T8.kept k9
                      have own9 := own_kept own8 k9
                      have f10 := B9.cell
                      have g10 := B9.frozen
                      have ft10 := T9.cell
                      have B10 := B9.set 3 (.int .i32 NF)
                      simp only [List.setIfInBounds_toArray, List.set_cons_zero, List.set_cons_succ] at B10
                      go_wp2_with fail
                      have hAA := HAA.out
                      subst hAA
                      go_meet
                      exact ⟨rfl, by have hBB := B10; rw [← HEE.out] at hBB; exact hBB, by repeat (first | (with_reducible exact own9) | (with_reducible refine own_far ?_ rfl hvb _)), by repeat (first | (with_reducible exact hk9) | (with_reducible refine Kept.setCell ?_ hge _) | (with_reducible refine Kept.alloc ?_ _) | (with_reducible refine Kept.drew ?_))⟩
                    · have dn : decide (0 ≤ NF) = false := by simpa using hn0
                      rw [if_neg hn0] at hP2
                      subst hP2
                      go_wp2_with fail
                      refine (HNM.out _ (by repeat (first | (with_reducible exact hk5a) | (with_reducible refine Kept.setCell ?_ hge _) | (with_reducible refine Kept.alloc ?_ _) | (with_reducible refine Kept.drew ?_)))).mono ?_
                      rintro e w7 ⟨rfl, k7⟩
                      have hk7 : Kept w w7 := (by repeat (first | (with_reducible exact hk5a) | (with_reducible refine Kept.setCell ?_ hge _) | (with_reducible refine Kept.alloc ?_ _) | (with_reducible refine Kept.drew ?_)) : Kept w _).trans k7
                      have B7 := B6.kept k7
                      have T6 : Blk _ w5.heap.size #[.int .i64 3, .int .i64 a, .int .i64 (E : Int), .bool tb] 49 := ((((T5.far (p := ⟨g, 0, none⟩) hne5 (.int .i64 4)).far (p := ⟨g, 1, none⟩) hne5 (.int .i64 a)).far (p := ⟨g, 2, none⟩) hne5 (.int .i64 (E : Int))).far (p := ⟨g, 3, none⟩) hne5 (.int .i32 0)).far (p := ⟨g, 4, none⟩) hne5 (.string ⟨#[]⟩)
                      have T7 := T6.kept k7
                      have own7 : w7.ownsRow w.heap.size 29 5 (.slice VA D.length VC) D.length (D.flatMap pcE) := own_kept (by repeat (first | (with_reducible exact own5) | (with_reducible refine own_far ?_ rfl hvb _))) k7
                      have f7 := B7.cell
                      have g7 := B7.frozen
                      have ft7 := T7.cell
                      go_wp2_with fail
                      have hAA := HAA.out
                      subst hAA
                      go_meet
                      exact ⟨rfl, by have hBB := B7; rw [← HEE.out] at hBB; exact hBB, own7, hk7⟩
                  rw [if_neg k3] at hP2
                  have d3 : (tk == 3) = false := by simpa using k3
                  by_cases k2 : tk = 2
                  rotate_left
                  · have d2 : (tk == 2) = false := by simpa using k2
                    rw [if_neg k2] at hP2
                    have htt1 : tt = 1 := by rcases hkk with h | ⟨h, _⟩ | ⟨_, h⟩; exact absurd h k3; exact absurd h k2; exact h
                    subst htt1
                    subst hP2
                    clear hkk hvr k2 k3
                    go_wp2_with fail
                    refine (HNX.out _ hkp).mono ?_
                    rintro e w5 ⟨rfl, k5⟩
                    have hk5 := hkp.trans k5
                    have B5 := ((Bp.kept k5).alloc (.cells #[.int .i64 tk, .int .i64 a, .int .i64 (E : Int), .bool tb] 49))
                    have T5 := Blk.new w5 #[.int .i64 tk, .int .i64 a, .int .i64 (E : Int), .bool tb] 49
                    have own5 := (own_kept hownp k5).alloc (.cells #[.int .i64 tk, .int .i64 a, .int .i64 (E : Int), .bool tb] 49)
                    have hk5a := hk5.alloc (.cells #[.int .i64 tk, .int .i64 a, .int .i64 (E : Int), .bool tb] 49)
                    have hgl := (Bp.kept k5).lt
                    have hn1 : (g = w5.heap.size) = False := by simp; omega
                    have hn2 : (w5.heap.size = g) = False := by simp; omega
                    have hne5 : w5.heap.size ≠ g := by omega
                    go_upto_region 9 with fail
                    generalize w5.alloc (.cells #[.int .i64 tk, .int .i64 a, .int .i64 (E : Int), .bool tb] 49) = w6 at B5 T5 own5 hk5a ⊢
                    have f5 := B5.cell
                    have g5 := B5.frozen
                    have ft5 := T5.cell
                    have gt5 := T5.frozen
                    have B6 := B5.over5 (.int .i64 4) (.int .i64 a) (.int .i64 (E : Int)) (.int .i32 0) (.string ⟨#[]⟩)
                    clear k5 Bp hownp hkp
                    go_upto_region 10 with fail
                    have T6 := ((((T5.far (p := ⟨g, 0, none⟩) hne5 (.int .i64 4)).far (p := ⟨g, 1, none⟩) hne5 (.int .i64 a)).far (p := ⟨g, 2, none⟩) hne5 (.int .i64 (E : Int))).far (p := ⟨g, 3, none⟩) hne5 (.int .i32 0)).far (p := ⟨g, 4, none⟩) hne5 (.string ⟨#[]⟩)
                    have own6 := own_far (own_far (own_far (own_far (own_far own5 (p := ⟨g, 0, none⟩) rfl hvb (.int .i64 4)) (p := ⟨g, 1, none⟩) rfl hvb (.int .i64 a)) (p := ⟨g, 2, none⟩) rfl hvb (.int .i64 (E : Int))) (p := ⟨g, 3, none⟩) rfl hvb (.int .i32 0)) (p := ⟨g, 4, none⟩) rfl hvb (.string ⟨#[]⟩)
                    have hk6 := ((((hk5a.setCell (p := ⟨g, 0, none⟩) hge (.int .i64 4)).setCell (p := ⟨g, 1, none⟩) hge (.int .i64 a)).setCell (p := ⟨g, 2, none⟩) hge (.int .i64 (E : Int))).setCell (p := ⟨g, 3, none⟩) hge (.int .i32 0)).setCell (p := ⟨g, 4, none⟩) hge (.string ⟨#[]⟩)
                    generalize ((((w6.setCell ⟨g, 0, none⟩ (.int .i64 4)).setCell ⟨g, 1, none⟩ (.int .i64 a)).setCell ⟨g, 2, none⟩ (.int .i64 (E : Int))).setCell ⟨g, 3, none⟩ (.int .i32 0)).setCell ⟨g, 4, none⟩ (.string ⟨#[]⟩) = w7 at B6 T6 own6 hk6 ⊢
                    clear f5 g5 ft5 gt5 B5 T5 own5 hk5a
                    have f6 := B6.cell
                    have g6 := B6.frozen
                    have l6 := B6.lt
                    have ft6 := T6.cell
                    go_wp2_with fail
                    have hAA := HAA.out
                    subst hAA
                    go_meet
                    exact ⟨rfl, by have hBB := B6; rw [← HEE.out] at hBB; exact hBB, own6, hk6⟩
                  · subst k2
                    rw [if_pos rfl] at hP2
                    have htt : tt = leadF (l.drop (a + 1)) + 2 := by
                      rcases hkk with h | ⟨_, h⟩ | ⟨h, _⟩
                      · exact absurd h k3
                      · exact h
                      · exact absurd h (by decide)
                    have hcs := fun w' (hk' : Kept w w') => (h.kept hk').cut1 (i := a + 1) (m := a + tt - 1) (by omega) (by omega)
                    rw [show (l.drop (a + 1)).take (a + tt - 1 - (a + 1)) = (l.drop (a + 1)).take (leadF (l.drop (a + 1))) by congr 1; omega] at hcs
                    rw [show tt - 2 = leadF (l.drop (a + 1)) by omega] at hP2
                    have hby := fun w' (hk' : Kept w w') => rbytes_any _ _ _ _ w' (hcs w' hk') (by omega) hvr
                    obtain ⟨ML, hML⟩ : ∃ z, leadF (l.drop (a + 1)) = z := ⟨_, rfl⟩
                    rw [hML] at hby hP2 htt
                    obtain ⟨NM, hNM⟩ : ∃ z, nameB ((l.drop (a + 1)).take ML) = z := ⟨_, rfl⟩
                    rw [hNM] at hP2
                    have w1' : IntKind.i64.wrap ((a : Int) + 1) = ((a + 1 : Nat) : Int) := by rw [IntWalk.i64_in _ (by omega)]; omega
                    have w2' : IntKind.i64.wrap ((E : Int) - 1) = ((a + tt - 1 : Nat) : Int) := by have hEE := HE2.out; rw [IntWalk.i64_in _ (by omega)]; omega
                    have r1 : ((a + 1 : Nat) : Int) ≤ ((a + tt - 1 : Nat) : Int) := by omega
                    have r2 : ((a + tt - 1 : Nat) : Int) ≤ c := by omega
                    have r3 : (0 : Int) ≤ ((a + 1 : Nat) : Int) := by omega
                    have hcut2 := run_cut_lh appT_runes AA n c (a + 1) (a + tt - 1) (by omega) (by omega)
                    clear hcut1
                    have hbytes : ∀ w', Kept w w' → Calls Try.prog 29 #[.slice (cutA AA c (a + 1) 1) (a + tt - 1 - (a + 1)) (c - (a + 1))] w' fun e w'' => ∃ VA VN VC, e = .returned (.slice VA VN VC) ∧ (convert 51 9 (.slice VA VN VC)).run Try.prog w'' = .ok (.string NM) w'' ∧ Kept w' w'' := by
                      intro w' hk'
                      refine (hby w' hk').mono ?_
                      rintro e w'' ⟨VA, VC, rfl, hs, hk⟩
                      have hrr := run_str (P := Try.prog) Try.underlying51 Try.underlying5 Try.underlying9 hs
                      rw [show strOfNums (((l.drop (a + 1)).take ML).flatMap encF) = NM from hNM] at hrr
                      exact ⟨VA, _, VC, rfl, hrr, hk⟩
                    obtain ⟨G, hG⟩ : ∃ G, a + 1 = G := ⟨_, rfl⟩
                    obtain ⟨F, hF⟩ : ∃ F, a + tt - 1 = F := ⟨_, rfl⟩
                    rw [hG] at hbytes hcut2 r1 r3 w1'
                    rw [hF] at hbytes hcut2 r1 r2 w2'
                    clear hG hF
                    have HBY := Lib.hid hbytes
                    subst hP2
                    clear hbytes hby hcs hkk hvr hML hNM k3 HNM htt
                    go_wp2_with fail
                    refine (HNX.out _ hkp).mono ?_
                    rintro e w5 ⟨rfl, k5⟩
                    have hk5 := hkp.trans k5
                    have B5 := ((Bp.kept k5).alloc (.cells #[.int .i64 2, .int .i64 a, .int .i64 (E : Int), .bool tb] 49))
                    have T5 := Blk.new w5 #[.int .i64 2, .int .i64 a, .int .i64 (E : Int), .bool tb] 49
                    have own5 := (own_kept hownp k5).alloc (.cells #[.int .i64 2, .int .i64 a, .int .i64 (E : Int), .bool tb] 49)
                    have hk5a := hk5.alloc (.cells #[.int .i64 2, .int .i64 a, .int .i64 (E : Int), .bool tb] 49)
                    have hgl := (Bp.kept k5).lt
                    have hn1 : (g = w5.heap.size) = False := by simp; omega
                    have hn2 : (w5.heap.size = g) = False := by simp; omega
                    have hne5 : w5.heap.size ≠ g := by omega
                    go_upto_region 9 with fail
                    generalize w5.alloc (.cells #[.int .i64 2, .int .i64 a, .int .i64 (E : Int), .bool tb] 49) = w6 at B5 T5 own5 hk5a ⊢
                    have f5 := B5.cell
                    have g5 := B5.frozen
                    have ft5 := T5.cell
                    have gt5 := T5.frozen
                    have B6 := B5.over5 (.int .i64 4) (.int .i64 a) (.int .i64 (E : Int)) (.int .i32 0) (.string ⟨#[]⟩)
                    clear k5 Bp hownp hkp
                    go_upto_region 10 with fail
                    have T6 := ((((T5.far (p := ⟨g, 0, none⟩) hne5 (.int .i64 4)).far (p := ⟨g, 1, none⟩) hne5 (.int .i64 a)).far (p := ⟨g, 2, none⟩) hne5 (.int .i64 (E : Int))).far (p := ⟨g, 3, none⟩) hne5 (.int .i32 0)).far (p := ⟨g, 4, none⟩) hne5 (.string ⟨#[]⟩)
                    have own6 := own_far (own_far (own_far (own_far (own_far own5 (p := ⟨g, 0, none⟩) rfl hvb (.int .i64 4)) (p := ⟨g, 1, none⟩) rfl hvb (.int .i64 a)) (p := ⟨g, 2, none⟩) rfl hvb (.int .i64 (E : Int))) (p := ⟨g, 3, none⟩) rfl hvb (.int .i32 0)) (p := ⟨g, 4, none⟩) rfl hvb (.string ⟨#[]⟩)
                    have hk6 := ((((hk5a.setCell (p := ⟨g, 0, none⟩) hge (.int .i64 4)).setCell (p := ⟨g, 1, none⟩) hge (.int .i64 a)).setCell (p := ⟨g, 2, none⟩) hge (.int .i64 (E : Int))).setCell (p := ⟨g, 3, none⟩) hge (.int .i32 0)).setCell (p := ⟨g, 4, none⟩) hge (.string ⟨#[]⟩)
                    generalize ((((w6.setCell ⟨g, 0, none⟩ (.int .i64 4)).setCell ⟨g, 1, none⟩ (.int .i64 a)).setCell ⟨g, 2, none⟩ (.int .i64 (E : Int))).setCell ⟨g, 3, none⟩ (.int .i32 0)).setCell ⟨g, 4, none⟩ (.string ⟨#[]⟩) = w7 at B6 T6 own6 hk6 ⊢
                    clear f5 g5 ft5 gt5 B5 T5 own5 hk5a
                    have f6 := B6.cell
                    have g6 := B6.frozen
                    have l6 := B6.lt
                    have ft6 := T6.cell
                    go_upto_region 15 with fail
                    have B7 := B6.set 0 (.int .i64 3)
                    simp only [List.setIfInBounds_toArray, List.set_cons_zero, List.set_cons_succ] at B7
                    have T7 := T6.far (p := ⟨g, 0, none⟩) hne5 (.int .i64 3)
                    have own7 := own_far own6 (p := ⟨g, 0, none⟩) rfl hvb (.int .i64 3)
                    have hk7 := hk6.setCell (p := ⟨g, 0, none⟩) hge (.int .i64 3)
                    generalize w7.setCell ⟨g, 0, none⟩ (.int .i64 3) = w9 at B7 T7 own7 hk7 ⊢
                    clear f6 g6 l6 ft6 B6 T6 own6 hk6
                    have ft7 := T7.cell
                    have l7 := B7.lt
                    go_wp2_with fail
                    refine (HBY.out _ hk7).mono ?_
                    rintro e w8 ⟨VA8, VN8, VC8, rfl, hcv8, k8⟩
                    have hk8 := hk7.trans k8
                    have B8 := B7.kept k8
                    have own8 := own_kept own7 k8
                    have f8 := B8.cell
                    have g8 := B8.frozen
                    have B9 := B8.set 4 (.string NM)
                    simp only [List.setIfInBounds_toArray, List.set_cons_zero, List.set_cons_succ] at B9
                    go_wp2_with fail
                    have hAA := HAA.out
                    subst hAA
                    go_meet
                    exact ⟨rfl, by have hBB := B9; rw [← HEE.out] at hBB; exact hBB, by repeat (first | (with_reducible exact own8) | (with_reducible refine own_far ?_ rfl hvb _)), by repeat (first | (with_reducible exact hk8) | (with_reducible refine Kept.setCell ?_ hge _) | (with_reducible refine Kept.alloc ?_ _) | (with_reducible refine Kept.drew ?_))⟩
            case rest =>
            clear Bp hownp hkp fp gp
            obtain ⟨rfl, B3, hown3, hk3⟩ := hcut
            have f9 := B3.cell
            have hsz := hk3.size
            go_wp2_with (at_builtin; refine wpList_app (by rfl) _ _ (by rfl) appT_rpc (by rfl) (hown3.alloc _) (by rfl) (Sl.litg (by rfl) ?_ (by omega)) ?_ ?_ ?_ ?_; (exact rfl); (exact rfl); (omega); (simp; omega); (intro v' w' hown' hgr hob; obtain ⟨VA', VC', rfl, hVs⟩ := own_sl hown'; have B4 := (B3.alloc _).grown hgr (fun e => hvb e.symm); have f10 := B4.cell))
            have hk4 : Kept w w' := (hk3.alloc _).grown hgr (fun k e => by have := hown3.lt k e; omega)
            clear hown3 hgr hob hVs B3 B4 f9 f10
            go_roundw
            case rel =>
              have hl1 : (D ++ [(P, a)]).length = D.length + 1 := by simp
              refine ⟨a + P.len, D ++ [(P, a)], VA', VC', by omega, by simp, by rw [hl1], by rw [hl1]; omega, ?_, hk4, ?_⟩
              · rw [hl1, List.flatMap_append]
                simpa [pcE, pcC] using hown'
              · unfold Hid
                rw [hinv.out, hc.out]
                simp
            case measure =>
              simp [intOf]
              omega
          · have e38 : (y != 38) = true := by simpa using hy38
            have HY := Lib.hid (runF_yes (p := fun x => x != 38) hy e38)
            have Bs := Bq.set 2 (.int .i64 ((a : Int) + j + 1))
            simp only [List.setIfInBounds_toArray, List.set_cons_zero, List.set_cons_succ] at Bs
            clear hy hy38
            go_wp2_with fail
            go_roundg (n - a - (j + 1))
            case rel => exact ⟨j + 1, rfl, by omega, by rw [Int.natCast_add, ← Int.add_assoc]; exact Bs, by repeat (first | (with_reducible exact hownq) | (with_reducible refine own_far ?_ rfl hvb _)), by repeat (first | (with_reducible exact hkq) | (with_reducible refine Kept.setCell ?_ hge _) | (with_reducible refine Kept.alloc ?_ _) | (with_reducible refine Kept.drew ?_)), by unfold Hid; rw [hinj.out, HY.out, Nat.add_assoc a j 1]; omega⟩
            case measure => omega
        · have d1 : decide ((a : Int) + j < n) = false := by simp; omega
          have hRj : R = j := by rw [hinj.out, runF_end (by have := HL.out; omega)]; rfl
          subst hRj
          have Bp := Bq
          have hownp := hownq
          have hkp := hkq
          clear Bq hownq hkq f9 g9 hB0 hkA hownA hq hinj
          obtain ⟨b2, o2, x2, hA2, hx2, hcx2, hb2⟩ := (h.kept hkp).oneb (k := a) hp
          injection hA2 with hA2
          injection hA2 with hA2a hA2b
          subst hA2a hA2b
          obtain rfl : x2 = x := by rw [HXA.out] at hx2; injection hx2 with hx2; exact hx2.symm
          clear hx2
          have fp := Bp.cell
          have gp := Bp.frozen
          go_upto_if 35 with fail
          go_cut [3] (fun v wx => v = .slice VA D.length VC ∧ Blk wx g #[.int .i64 P.kind, .int .i64 a, .int .i64 ((a : Int) + P.len), .int .i32 P.r, .string P.name] 29 ∧ wx.ownsRow w.heap.size 29 5 (.slice VA D.length VC) D.length (D.flatMap pcE) ∧ Kept w wx)
          case first =>
              by_cases hx38 : x2 = 38
              rotate_left
              · have hPP : P = ⟨1, R, 0, ⟨#[]⟩⟩ := by rw [HPD.out, if_neg hx38, HRR.out]
                subst hPP
                have d38 : (x2 == 38) = false := by simpa using hx38
                go_wp2_with fail
                go_meet
                exact ⟨rfl, Bp, hownp, hkp⟩
              · subst hx38
                obtain ⟨AA, hAA⟩ : ∃ AA, (some (⟨b, o, none⟩ : Addr)) = AA := ⟨_, rfl⟩
                rw [hAA] at h ⊢
                have HAA := Lib.hid hAA
                clear hAA
                have h38 : l[a]? = some 38 := HXA.out
                have hne : l.drop a ≠ [] := by
                  intro e
                  have := congrArg List.length e
                  rw [List.length_drop, List.length_nil] at this
                  have := HL.out
                  omega
                have hP2 := HPD.out
                rw [if_pos rfl] at hP2
                have hle := refT_le hne
                rw [List.length_drop, HL.out] at hle
                have h1 := refT_len (l.drop a)
                have hkk := refT_kinds (l.drop a)
                have hvr := lead_vr (s := l.drop (a + 1))
                have h0 : (l.drop a)[0]? = some 38 := by rw [List.getElem?_drop, Nat.add_zero]; exact h38
                have hnext := fun w' (hk' : Kept w w') => rnext_any _ n c l a w' (h.kept hk') hn hp h38 hr
                unfold tokC at hnext
                rw [show (l.drop a).drop 1 = l.drop (a + 1) from List.drop_drop ..] at hP2 hkk
                obtain ⟨tk, tt, hT⟩ : ∃ tk tt, refT (l.drop a) = (tk, tt) := ⟨_, _, rfl⟩
                rw [hT] at hnext hP2 hle h1 hkk
                dsimp only at hnext hP2 hle h1 hkk
                rw [← Int.natCast_add] at hnext
                obtain ⟨E, hE⟩ : ∃ E, a + tt = E := ⟨_, rfl⟩
                rw [hE] at hnext
                have HEE : Hid ((a : Int) + tt = E) := by unfold Hid; omega
                have HE2 := Lib.hid hE
                clear hT hne
                have hnum := fun (hA : a = a) w' (hk' : Kept w w') => rnumber_any (cutA AA c a 1) (a + tt - a) (c - a) ((l.drop a).take (a + tt - a)) w' ((h.kept hk').cut1 (i := a) (m := a + tt) (by omega) (by omega)) (by omega) (by rw [List.getElem?_take, if_pos (by omega)]; exact h0) ((hr.drop _).take _)
                rw [show (l.drop a).take (a + tt - a) = (l.drop a).take tt by rw [Nat.add_sub_cancel_left]] at hnum
                rw [hE] at hnum
                have q1 : (a : Int) ≤ (E : Int) := by omega
                have q2 : (E : Int) ≤ c := by omega
                have q3 : (0 : Int) ≤ (E : Int) := by omega
                have hcut1 := run_cut_lh appT_runes AA n c a E (by omega) (by omega)
                obtain ⟨NF, hNF⟩ : ∃ z, numberF ((l.drop a).take tt) = z := ⟨_, rfl⟩
                rw [hNF] at hnum hP2
                obtain ⟨tb, htb⟩ : ∃ b, (tk != 11) = b := ⟨_, rfl⟩
                rw [htb] at hnext
                have HNX := Lib.hid hnext
                have HNM := Lib.hid (hnum rfl)
                clear hnext hnum htb hNF h0 hE
                by_cases k3 : tk = 3
                · subst k3
                  rw [if_pos rfl] at hP2
                  clear hkk hvr
                  go_wp2_with fail
                  refine (HNX.out _ hkp).mono ?_
                  rintro e w5 ⟨rfl, k5⟩
                  have hk5 := hkp.trans k5
                  have B5 := ((Bp.kept k5).alloc (.cells #[.int .i64 3, .int .i64 a, .int .i64 (E : Int), .bool tb] 49))
                  have T5 := Blk.new w5 #[.int .i64 3, .int .i64 a, .int .i64 (E : Int), .bool tb] 49
                  have own5 := (own_kept hownp k5).alloc (.cells #[.int .i64 3, .int .i64 a, .int .i64 (E : Int), .bool tb] 49)
                  have hk5a := hk5.alloc (.cells #[.int .i64 3, .int .i64 a, .int .i64 (E : Int), .bool tb] 49)
                  have hgl := (Bp.kept k5).lt
                  have hn1 : (g = w5.heap.size) = False := by simp; omega
                  have hn2 : (w5.heap.size = g) = False := by simp; omega
                  have hne5 : w5.heap.size ≠ g := by omega
                  go_upto_region 9 with fail
                  generalize w5.alloc (.cells #[.int .i64 3, .int .i64 a, .int .i64 (E : Int), .bool tb] 49) = w6 at B5 T5 own5 hk5a ⊢
                  have f5 := B5.cell
                  have g5 := B5.frozen
                  have ft5 := T5.cell
                  have gt5 := T5.frozen
                  have B6 := B5.over5 (.int .i64 4) (.int .i64 a) (.int .i64 (E : Int)) (.int .i32 0) (.string ⟨#[]⟩)
                  clear k5 Bp hownp hkp
                  by_cases hn0 : 0 ≤ NF
                  · have dn : decide (0 ≤ NF) = true := by simpa using hn0
                    rw [if_pos hn0] at hP2
                    subst hP2
                    go_wp2_with fail
                    refine (HNM.out _ (by repeat (first | (with_reducible exact hk5a) | (with_reducible refine Kept.setCell ?_ hge _) | (with_reducible refine Kept.alloc ?_ _) | (with_reducible refine Kept.drew ?_)))).mono ?_
                    rintro e w7 ⟨rfl, k7⟩
                    have hk7 : Kept w w7 := (by repeat (first | (with_reducible exact hk5a) | (with_reducible refine Kept.setCell ?_ hge _) | (with_reducible refine Kept.alloc ?_ _) | (with_reducible refine Kept.drew ?_)) : Kept w _).trans k7
                    have B7 := B6.kept k7
                    have T6 : Blk _ w5.heap.size #[.int .i64 3, .int .i64 a, .int .i64 (E : Int), .bool tb] 49 := ((((T5.far (p := ⟨g, 0, none⟩) hne5 (.int .i64 4)).far (p := ⟨g, 1, none⟩) hne5 (.int .i64 a)).far (p := ⟨g, 2, none⟩) hne5 (.int .i64 (E : Int))).far (p := ⟨g, 3, none⟩) hne5 (.int .i32 0)).far (p := ⟨g, 4, none⟩) hne5 (.string ⟨#[]⟩)
                    have T7 := T6.kept k7
                    have own7 : w7.ownsRow w.heap.size 29 5 (.slice VA D.length VC) D.length (D.flatMap pcE) := own_kept (by repeat (first | (with_reducible exact own5) | (with_reducible refine own_far ?_ rfl hvb _))) k7
                    have f7 := B7.cell
                    have g7 := B7.frozen
                    have ft7 := T7.cell
                    have B8 := B7.set 0 (.int .i64 2)
                    simp only [List.setIfInBounds_toArray, List.set_cons_zero, List.set_cons_succ] at B8
                    have T8 := T7.far (p := ⟨g, 0, none⟩) hne5 (.int .i64 2)
                    have own8 := own_far own7 (p := ⟨g, 0, none⟩) rfl hvb (.int .i64 2)
                    have hk8 := hk7.setCell (p := ⟨g, 0, none⟩) hge (.int .i64 2)
                    go_wp2_with fail
                    refine (HNM.out _ hk8).mono ?_
                    rintro e w9 ⟨rfl, k9⟩
                    have hk9 := hk8.trans k9
                    have B9 := B8.kept k9
                    have T9 := T8.kept k9
                    have own9 := own_kept own8 k9
                    have f10 := B9.cell
                    have g10 := B9.frozen
                    have ft10 := T9.cell
                    have B10 := B9.set 3 (.int .i32 NF)
                    simp only [List.setIfInBounds_toArray, List.set_cons_zero, List.set_cons_succ] at B10
                    go_wp2_with fail
                    have hAA := HAA.out
                    subst hAA
                    go_meet
                    exact ⟨rfl, by have hBB := B10; rw [← HEE.out] at hBB; exact hBB, by repeat (first | (with_reducible exact own9) | (with_reducible refine own_far ?_ rfl hvb _)), by repeat (first | (with_reducible exact hk9) | (with_reducible refine Kept.setCell ?_ hge _) | (with_reducible refine Kept.alloc ?_ _) | (with_reducible refine Kept.drew ?_))⟩
                  · have dn : decide (0 ≤ NF) = false := by simpa using hn0
                    rw [if_neg hn0] at hP2
                    subst hP2
                    go_wp2_with fail
                    refine (HNM.out _ (by repeat (first | (with_reducible exact hk5a) | (with_reducible refine Kept.setCell ?_ hge _) | (with_reducible refine Kept.alloc ?_ _) | (with_reducible refine Kept.drew ?_)))).mono ?_
                    rintro e w7 ⟨rfl, k7⟩
                    have hk7 : Kept w w7 := (by repeat (first | (with_reducible exact hk5a) | (with_reducible refine Kept.setCell ?_ hge _) | (with_reducible refine Kept.alloc ?_ _) | (with_reducible refine Kept.drew ?_)) : Kept w _).trans k7
                    have B7 := B6.kept k7
                    have T6 : Blk _ w5.heap.size #[.int .i64 3, .int .i64 a, .int .i64 (E : Int), .bool tb] 49 := ((((T5.far (p := ⟨g, 0, none⟩) hne5 (.int .i64 4)).far (p := ⟨g, 1, none⟩) hne5 (.int .i64 a)).far (p := ⟨g, 2, none⟩) hne5 (.int .i64 (E : Int))).far (p := ⟨g, 3, none⟩) hne5 (.int .i32 0)).far (p := ⟨g, 4, none⟩) hne5 (.string ⟨#[]⟩)
                    have T7 := T6.kept k7
                    have own7 : w7.ownsRow w.heap.size 29 5 (.slice VA D.length VC) D.length (D.flatMap pcE) := own_kept (by repeat (first | (with_reducible exact own5) | (with_reducible refine own_far ?_ rfl hvb _))) k7
                    have f7 := B7.cell
                    have g7 := B7.frozen
                    have ft7 := T7.cell
                    go_wp2_with fail
                    have hAA := HAA.out
                    subst hAA
                    go_meet
                    exact ⟨rfl, by have hBB := B7; rw [← HEE.out] at hBB; exact hBB, own7, hk7⟩
                rw [if_neg k3] at hP2
                have d3 : (tk == 3) = false := by simpa using k3
                by_cases k2 : tk = 2
                rotate_left
                · have d2 : (tk == 2) = false := by simpa using k2
                  rw [if_neg k2] at hP2
                  have htt1 : tt = 1 := by rcases hkk with h | ⟨h, _⟩ | ⟨_, h⟩; exact absurd h k3; exact absurd h k2; exact h
                  subst htt1
                  subst hP2
                  clear hkk hvr k2 k3
                  go_wp2_with fail
                  refine (HNX.out _ hkp).mono ?_
                  rintro e w5 ⟨rfl, k5⟩
                  have hk5 := hkp.trans k5
                  have B5 := ((Bp.kept k5).alloc (.cells #[.int .i64 tk, .int .i64 a, .int .i64 (E : Int), .bool tb] 49))
                  have T5 := Blk.new w5 #[.int .i64 tk, .int .i64 a, .int .i64 (E : Int), .bool tb] 49
                  have own5 := (own_kept hownp k5).alloc (.cells #[.int .i64 tk, .int .i64 a, .int .i64 (E : Int), .bool tb] 49)
                  have hk5a := hk5.alloc (.cells #[.int .i64 tk, .int .i64 a, .int .i64 (E : Int), .bool tb] 49)
                  have hgl := (Bp.kept k5).lt
                  have hn1 : (g = w5.heap.size) = False := by simp; omega
                  have hn2 : (w5.heap.size = g) = False := by simp; omega
                  have hne5 : w5.heap.size ≠ g := by omega
                  go_upto_region 9 with fail
                  generalize w5.alloc (.cells #[.int .i64 tk, .int .i64 a, .int .i64 (E : Int), .bool tb] 49) = w6 at B5 T5 own5 hk5a ⊢
                  have f5 := B5.cell
                  have g5 := B5.frozen
                  have ft5 := T5.cell
                  have gt5 := T5.frozen
                  have B6 := B5.over5 (.int .i64 4) (.int .i64 a) (.int .i64 (E : Int)) (.int .i32 0) (.string ⟨#[]⟩)
                  clear k5 Bp hownp hkp
                  go_upto_region 10 with fail
                  have T6 := ((((T5.far (p := ⟨g, 0, none⟩) hne5 (.int .i64 4)).far (p := ⟨g, 1, none⟩) hne5 (.int .i64 a)).far (p := ⟨g, 2, none⟩) hne5 (.int .i64 (E : Int))).far (p := ⟨g, 3, none⟩) hne5 (.int .i32 0)).far (p := ⟨g, 4, none⟩) hne5 (.string ⟨#[]⟩)
                  have own6 := own_far (own_far (own_far (own_far (own_far own5 (p := ⟨g, 0, none⟩) rfl hvb (.int .i64 4)) (p := ⟨g, 1, none⟩) rfl hvb (.int .i64 a)) (p := ⟨g, 2, none⟩) rfl hvb (.int .i64 (E : Int))) (p := ⟨g, 3, none⟩) rfl hvb (.int .i32 0)) (p := ⟨g, 4, none⟩) rfl hvb (.string ⟨#[]⟩)
                  have hk6 := ((((hk5a.setCell (p := ⟨g, 0, none⟩) hge (.int .i64 4)).setCell (p := ⟨g, 1, none⟩) hge (.int .i64 a)).setCell (p := ⟨g, 2, none⟩) hge (.int .i64 (E : Int))).setCell (p := ⟨g, 3, none⟩) hge (.int .i32 0)).setCell (p := ⟨g, 4, none⟩) hge (.string ⟨#[]⟩)
                  generalize ((((w6.setCell ⟨g, 0, none⟩ (.int .i64 4)).setCell ⟨g, 1, none⟩ (.int .i64 a)).setCell ⟨g, 2, none⟩ (.int .i64 (E : Int))).setCell ⟨g, 3, none⟩ (.int .i32 0)).setCell ⟨g, 4, none⟩ (.string ⟨#[]⟩) = w7 at B6 T6 own6 hk6 ⊢
                  clear f5 g5 ft5 gt5 B5 T5 own5 hk5a
                  have f6 := B6.cell
                  have g6 := B6.frozen
                  have l6 := B6.lt
                  have ft6 := T6.cell
                  go_wp2_with fail
                  have hAA := HAA.out
                  subst hAA
                  go_meet
                  exact ⟨rfl, by have hBB := B6; rw [← HEE.out] at hBB; exact hBB, own6, hk6⟩
                · subst k2
                  rw [if_pos rfl] at hP2
                  have htt : tt = leadF (l.drop (a + 1)) + 2 := by
                    rcases hkk with h | ⟨_, h⟩ | ⟨h, _⟩
                    · exact absurd h k3
                    · exact h
                    · exact absurd h (by decide)
                  have hcs := fun w' (hk' : Kept w w') => (h.kept hk').cut1 (i := a + 1) (m := a + tt - 1) (by omega) (by omega)
                  rw [show (l.drop (a + 1)).take (a + tt - 1 - (a + 1)) = (l.drop (a + 1)).take (leadF (l.drop (a + 1))) by congr 1; omega] at hcs
                  rw [show tt - 2 = leadF (l.drop (a + 1)) by omega] at hP2
                  have hby := fun w' (hk' : Kept w w') => rbytes_any _ _ _ _ w' (hcs w' hk') (by omega) hvr
                  obtain ⟨ML, hML⟩ : ∃ z, leadF (l.drop (a + 1)) = z := ⟨_, rfl⟩
                  rw [hML] at hby hP2 htt
                  obtain ⟨NM, hNM⟩ : ∃ z, nameB ((l.drop (a + 1)).take ML) = z := ⟨_, rfl⟩
                  rw [hNM] at hP2
                  have w1' : IntKind.i64.wrap ((a : Int) + 1) = ((a + 1 : Nat) : Int) := by rw [IntWalk.i64_in _ (by omega)]; omega
                  have w2' : IntKind.i64.wrap ((E : Int) - 1) = ((a + tt - 1 : Nat) : Int) := by have hEE := HE2.out; rw [IntWalk.i64_in _ (by omega)]; omega
                  have r1 : ((a + 1 : Nat) : Int) ≤ ((a + tt - 1 : Nat) : Int) := by omega
                  have r2 : ((a + tt - 1 : Nat) : Int) ≤ c := by omega
                  have r3 : (0 : Int) ≤ ((a + 1 : Nat) : Int) := by omega
                  have hcut2 := run_cut_lh appT_runes AA n c (a + 1) (a + tt - 1) (by omega) (by omega)
                  clear hcut1
                  have hbytes : ∀ w', Kept w w' → Calls Try.prog 29 #[.slice (cutA AA c (a + 1) 1) (a + tt - 1 - (a + 1)) (c - (a + 1))] w' fun e w'' => ∃ VA VN VC, e = .returned (.slice VA VN VC) ∧ (convert 51 9 (.slice VA VN VC)).run Try.prog w'' = .ok (.string NM) w'' ∧ Kept w' w'' := by
                    intro w' hk'
                    refine (hby w' hk').mono ?_
                    rintro e w'' ⟨VA, VC, rfl, hs, hk⟩
                    have hrr := run_str (P := Try.prog) Try.underlying51 Try.underlying5 Try.underlying9 hs
                    rw [show strOfNums (((l.drop (a + 1)).take ML).flatMap encF) = NM from hNM] at hrr
                    exact ⟨VA, _, VC, rfl, hrr, hk⟩
                  obtain ⟨G, hG⟩ : ∃ G, a + 1 = G := ⟨_, rfl⟩
                  obtain ⟨F, hF⟩ : ∃ F, a + tt - 1 = F := ⟨_, rfl⟩
                  rw [hG] at hbytes hcut2 r1 r3 w1'
                  rw [hF] at hbytes hcut2 r1 r2 w2'
                  clear hG hF
                  have HBY := Lib.hid hbytes
                  subst hP2
                  clear hbytes hby hcs hkk hvr hML hNM k3 HNM htt
                  go_wp2_with fail
                  refine (HNX.out _ hkp).mono ?_
                  rintro e w5 ⟨rfl, k5⟩
                  have hk5 := hkp.trans k5
                  have B5 := ((Bp.kept k5).alloc (.cells #[.int .i64 2, .int .i64 a, .int .i64 (E : Int), .bool tb] 49))
                  have T5 := Blk.new w5 #[.int .i64 2, .int .i64 a, .int .i64 (E : Int), .bool tb] 49
                  have own5 := (own_kept hownp k5).alloc (.cells #[.int .i64 2, .int .i64 a, .int .i64 (E : Int), .bool tb] 49)
                  have hk5a := hk5.alloc (.cells #[.int .i64 2, .int .i64 a, .int .i64 (E : Int), .bool tb] 49)
                  have hgl := (Bp.kept k5).lt
                  have hn1 : (g = w5.heap.size) = False := by simp; omega
                  have hn2 : (w5.heap.size = g) = False := by simp; omega
                  have hne5 : w5.heap.size ≠ g := by omega
                  go_upto_region 9 with fail
                  generalize w5.alloc (.cells #[.int .i64 2, .int .i64 a, .int .i64 (E : Int), .bool tb] 49) = w6 at B5 T5 own5 hk5a ⊢
                  have f5 := B5.cell
                  have g5 := B5.frozen
                  have ft5 := T5.cell
                  have gt5 := T5.frozen
                  have B6 := B5.over5 (.int .i64 4) (.int .i64 a) (.int .i64 (E : Int)) (.int .i32 0) (.string ⟨#[]⟩)
                  clear k5 Bp hownp hkp
                  go_upto_region 10 with fail
                  have T6 := ((((T5.far (p := ⟨g, 0, none⟩) hne5 (.int .i64 4)).far (p := ⟨g, 1, none⟩) hne5 (.int .i64 a)).far (p := ⟨g, 2, none⟩) hne5 (.int .i64 (E : Int))).far (p := ⟨g, 3, none⟩) hne5 (.int .i32 0)).far (p := ⟨g, 4, none⟩) hne5 (.string ⟨#[]⟩)
                  have own6 := own_far (own_far (own_far (own_far (own_far own5 (p := ⟨g, 0, none⟩) rfl hvb (.int .i64 4)) (p := ⟨g, 1, none⟩) rfl hvb (.int .i64 a)) (p := ⟨g, 2, none⟩) rfl hvb (.int .i64 (E : Int))) (p := ⟨g, 3, none⟩) rfl hvb (.int .i32 0)) (p := ⟨g, 4, none⟩) rfl hvb (.string ⟨#[]⟩)
                  have hk6 := ((((hk5a.setCell (p := ⟨g, 0, none⟩) hge (.int .i64 4)).setCell (p := ⟨g, 1, none⟩) hge (.int .i64 a)).setCell (p := ⟨g, 2, none⟩) hge (.int .i64 (E : Int))).setCell (p := ⟨g, 3, none⟩) hge (.int .i32 0)).setCell (p := ⟨g, 4, none⟩) hge (.string ⟨#[]⟩)
                  generalize ((((w6.setCell ⟨g, 0, none⟩ (.int .i64 4)).setCell ⟨g, 1, none⟩ (.int .i64 a)).setCell ⟨g, 2, none⟩ (.int .i64 (E : Int))).setCell ⟨g, 3, none⟩ (.int .i32 0)).setCell ⟨g, 4, none⟩ (.string ⟨#[]⟩) = w7 at B6 T6 own6 hk6 ⊢
                  clear f5 g5 ft5 gt5 B5 T5 own5 hk5a
                  have f6 := B6.cell
                  have g6 := B6.frozen
                  have l6 := B6.lt
                  have ft6 := T6.cell
                  go_upto_region 15 with fail
                  have B7 := B6.set 0 (.int .i64 3)
                  simp only [List.setIfInBounds_toArray, List.set_cons_zero, List.set_cons_succ] at B7
                  have T7 := T6.far (p := ⟨g, 0, none⟩) hne5 (.int .i64 3)
                  have own7 := own_far own6 (p := ⟨g, 0, none⟩) rfl hvb (.int .i64 3)
                  have hk7 := hk6.setCell (p := ⟨g, 0, none⟩) hge (.int .i64 3)
                  generalize w7.setCell ⟨g, 0, none⟩ (.int .i64 3) = w9 at B7 T7 own7 hk7 ⊢
                  clear f6 g6 l6 ft6 B6 T6 own6 hk6
                  have ft7 := T7.cell
                  have l7 := B7.lt
                  go_wp2_with fail
                  refine (HBY.out _ hk7).mono ?_
                  rintro e w8 ⟨VA8, VN8, VC8, rfl, hcv8, k8⟩
                  have hk8 := hk7.trans k8
                  have B8 := B7.kept k8
                  have own8 := own_kept own7 k8
                  have f8 := B8.cell
                  have g8 := B8.frozen
                  have B9 := B8.set 4 (.string NM)
                  simp only [List.setIfInBounds_toArray, List.set_cons_zero, List.set_cons_succ] at B9
                  go_wp2_with fail
                  have hAA := HAA.out
                  subst hAA
                  go_meet
                  exact ⟨rfl, by have hBB := B9; rw [← HEE.out] at hBB; exact hBB, by repeat (first | (with_reducible exact own8) | (with_reducible refine own_far ?_ rfl hvb _)), by repeat (first | (with_reducible exact hk8) | (with_reducible refine Kept.setCell ?_ hge _) | (with_reducible refine Kept.alloc ?_ _) | (with_reducible refine Kept.drew ?_))⟩
          case rest =>
          clear Bp hownp hkp fp gp
          obtain ⟨rfl, B3, hown3, hk3⟩ := hcut
          have f9 := B3.cell
          have hsz := hk3.size
          go_wp2_with (at_builtin; refine wpList_app (by rfl) _ _ (by rfl) appT_rpc (by rfl) (hown3.alloc _) (by rfl) (Sl.litg (by rfl) ?_ (by omega)) ?_ ?_ ?_ ?_; (exact rfl); (exact rfl); (omega); (simp; omega); (intro v' w' hown' hgr hob; obtain ⟨VA', VC', rfl, hVs⟩ := own_sl hown'; have B4 := (B3.alloc _).grown hgr (fun e => hvb e.symm); have f10 := B4.cell))
          have hk4 : Kept w w' := (hk3.alloc _).grown hgr (fun k e => by have := hown3.lt k e; omega)
          clear hown3 hgr hob hVs B3 B4 f9 f10
          go_roundw
          case rel =>
            have hl1 : (D ++ [(P, a)]).length = D.length + 1 := by simp
            refine ⟨a + P.len, D ++ [(P, a)], VA', VC', by omega, by simp, by rw [hl1], by rw [hl1]; omega, ?_, hk4, ?_⟩
            · rw [hl1, List.flatMap_append]
              simpa [pcE, pcC] using hown'
            · unfold Hid
              rw [hinv.out, hc.out]
              simp
          case measure =>
            simp [intOf]
            omega
    · have d1 : decide ((a : Int) < n) = false := by simp; omega
      obtain ⟨A2, c2, hVe, hV⟩ := own_sl hown
      injection hVe with e1 e2 e3
      subst e1 e3
      have hfin : pcsX l 0 = D := by rw [hinv.out, pcsX_end (by have := HL.out; omega), List.append_nil]
      have HF := Lib.hid hfin
      clear hfin
      go_wp2_with fail
      go_ret
      exact ⟨VA, VC, by rw [HF.out]; rfl, by rw [HF.out]; exact hV, hk⟩
end Go.Proofs.Ytennpgdoepdboaa
