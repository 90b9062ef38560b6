/- Layer 14: Lines, the document's Lines; the law RefsLines: walked. -/
import Derived.Test.YtennpgdoepdboaaRefsA
namespace Go.Proofs.Ytennpgdoepdboaa
open Go.RowKit
attribute [local go_sem ↓] Go.wp_at_zero Go.wp_at_succ

theorem lines_ne {x : Int} {s : List Int} (h : x ≠ 13) : linesF (x :: s) = x :: linesF s := by
  cases s with
  | nil =>
    show (if x = 13 then [10] else [x]) = [x]
    rw [if_neg h]
  | cons y s => rw [linesF, if_neg h]
theorem lines_crlf {s : List Int} : linesF (13 :: 10 :: s) = 10 :: linesF s := by
  rw [linesF, if_pos rfl, if_pos rfl, lines_ne (by decide)]
theorem lines_crlf' {s : List Int} : linesF (13 :: 10 :: s) = linesF (10 :: s) := by
  rw [linesF, if_pos rfl, if_pos rfl]
theorem lines_cr {s : List Int} (h : s.head? ≠ some 10) : linesF (13 :: s) = 10 :: linesF s := by
  cases s with
  | nil => rfl
  | cons y s =>
    have : y ≠ 10 := by simpa using h
    rw [linesF, if_pos rfl, if_neg this]
theorem lines_len : ∀ (s : List Int), (linesF s).length ≤ s.length
  | [] => by simp [linesF]
  | [x] => by rw [linesF]; split <;> simp
  | x :: y :: s => by
    have := lines_len (y :: s)
    rw [linesF]
    (repeat' split) <;> simp at * <;> omega
set_option maxHeartbeats 4000000 in
theorem lines_any (A : Option Addr) (n c : Nat) (l : List Int) (w : World) (h : Sl w 1 A n c (l.map (Value.int .i32))) (hn : n ≤ 1000000) :
    Calls Try.prog 17 #[.slice A n c] w fun e w' => ∃ VA VC, e = .returned (.slice VA (linesF l).length VC) ∧ Sl w' 1 VA (linesF l).length VC ((linesF l).map (Value.int .i32)) ∧ Kept w w' := by
  have hcap := h.cap
  have hmax := h.max
  have HL := Lib.hid h.llen1
  go_enter Try.func17, Try.ntmps17
  go_wp2_with fail
  go_loopw [3, 8] (fun v u wr => ∃ (i : Nat) (D : List Int) (VA : Option Addr) (VC : Nat), i ≤ n ∧ u = .int .i64 i ∧ v = .slice VA D.length VC ∧ D.length ≤ i ∧ wr.ownsRow w.heap.size 21 1 (.slice VA D.length VC) D.length (D.map (Value.int .i32)) ∧ Kept w wr ∧ Hid (linesF l = D ++ linesF (l.drop i)))
    (fun _ u _ => n - (intOf u).toNat)
  case atStart => exact ⟨0, [], none, 0, Nat.zero_le _, rfl, rfl, Nat.le_refl _, World.ownsRow_nil _ _ _ _, Kept.refl _, rfl⟩
  case round =>
    obtain ⟨i, D, VA, VC, hin, rfl, rfl, hD, hown, hk, hinv⟩ := hrel
    by_cases hp : i < n
    · obtain ⟨b, o, x, rfl, hx, hcx, hb⟩ := (h.kept hk).oneb (k := i) hp
      have l0 : (0 : Int) ≤ i := by omega
      have l1 : (i : Int) < n := by omega
      have hdr := drop_get hx
      have wa : IntKind.i64.wrap ((i : Int) + 1) = (i : Int) + 1 := IntWalk.i64_in _ (by omega)
      have hsz := hk.size
      by_cases hx13 : x = 13
      · subst hx13
        by_cases hlf : l[i + 1]? = some 10
        · have hi1 : i + 1 < n := by
            have := (List.getElem?_eq_some_iff.1 hlf).1
            have := HL.out
            omega
          obtain ⟨b', o', y, he, hy, hcy, _⟩ := (h.kept hk).oneb (k := i + 1) hi1
          injection he with he
          injection he with e1 e2
          subst e1 e2
          obtain rfl : y = 10 := by rw [hlf] at hy; injection hy with hy; exact hy.symm
          have hst : linesF (l.drop i) = linesF (l.drop (i + 1)) := by
            rw [hdr, drop_get hlf, lines_crlf']
          have HST := Lib.hid hst
          have d1 : (((i : Int) + 1) == n) = false := by simp; omega
          have j0 : (0 : Int) ≤ (i : Int) + 1 := by omega
          have j1 : (i : Int) + 1 < n := by omega
          have j2 : ((i : Int) + 1).toNat = i + 1 := by omega
          clear hx hdr hst hlf hy
          go_wp2_with fail
          go_roundw
          case rel => exact ⟨i + 1, D, VA, VC, hp, by simp, rfl, by omega, hown, hk, by unfold Hid; rw [hinv.out, HST.out]⟩
          case measure =>
            simp [intOf]
            omega
        · have hst : linesF (l.drop i) = 10 :: linesF (l.drop (i + 1)) := by
            rw [hdr, lines_cr (by rw [List.head?_drop]; exact hlf)]
          have HST := Lib.hid hst
          by_cases hend : i + 1 = n
          · have d1 : (((i : Int) + 1) == n) = true := by simp; omega
            clear hx hdr hst hlf
            go_wp2_with (at_builtin; refine wpList_app (by rfl) _ _ (by rfl) appT_runes (by rfl) (hown.alloc _) (by rfl) (Sl.litg (by rfl) ?_ (by omega)) ?_ ?_ ?_ ?_; (exact rfl); (exact rfl); (omega); (simp; omega); (intro v' w' hown' hgr hob; obtain ⟨VA', VC', rfl, hVs⟩ := own_sl hown'))
            have hk3 : Kept w w' := (hk.alloc _).grown hgr (fun k e => by have := hown.lt k e; omega)
            clear hown hgr hob hVs
            go_roundw
            case rel =>
              have hl1 : (D ++ [(10 : Int)]).length = D.length + 1 := by simp
              exact ⟨i + 1, D ++ [10], VA', VC', hp, by simp, by rw [hl1], by rw [hl1]; omega, by rw [hl1, List.map_append]; exact hown', hk3, by unfold Hid; rw [hinv.out, HST.out]; simp⟩
            case measure =>
              simp [intOf]
              omega
          · obtain ⟨b', o', y, he, hy, hcy, _⟩ := (h.kept hk).oneb (k := i + 1) (by omega)
            injection he with he
            injection he with e1 e2
            subst e1 e2
            have hy10 : (y != 10) = true := by
              simp
              intro e
              exact hlf (by rw [hy, e])
            have d1 : (((i : Int) + 1) == n) = false := by simp; omega
            have j0 : (0 : Int) ≤ (i : Int) + 1 := by omega
            have j1 : (i : Int) + 1 < n := by omega
            have j2 : ((i : Int) + 1).toNat = i + 1 := by omega
            clear hx hdr hst hlf hy
            go_wp2_with (at_builtin; refine wpList_app (by rfl) _ _ (by rfl) appT_runes (by rfl) (hown.alloc _) (by rfl) (Sl.litg (by rfl) ?_ (by omega)) ?_ ?_ ?_ ?_; (exact rfl); (exact rfl); (omega); (simp; omega); (intro v' w' hown' hgr hob; obtain ⟨VA', VC', rfl, hVs⟩ := own_sl hown'))
            have hk3 : Kept w w' := (hk.alloc _).grown hgr (fun k e => by have := hown.lt k e; omega)
            clear hown hgr hob hVs
            go_roundw
            case rel =>
              have hl1 : (D ++ [(10 : Int)]).length = D.length + 1 := by simp
              exact ⟨i + 1, D ++ [10], VA', VC', hp, by simp, by rw [hl1], by rw [hl1]; omega, by rw [hl1, List.map_append]; exact hown', hk3, by unfold Hid; rw [hinv.out, HST.out]; simp⟩
            case measure =>
              simp [intOf]
              omega
      · have hst : linesF (l.drop i) = x :: linesF (l.drop (i + 1)) := by rw [hdr, lines_ne hx13]
        have HST := Lib.hid hst
        have d13 : (x != 13) = true := by simpa using hx13
        clear hx hdr hst hx13
        go_wp2_with (at_builtin; refine wpList_app (by rfl) _ _ (by rfl) appT_runes (by rfl) (hown.alloc _) (by rfl) (Sl.litg (by rfl) ?_ (by omega)) ?_ ?_ ?_ ?_; (exact rfl); (exact rfl); (omega); (simp; omega); (intro v' w' hown' hgr hob; obtain ⟨VA', VC', rfl, hVs⟩ := own_sl hown'))
        have hk3 : Kept w w' := (hk.alloc _).grown hgr (fun k e => by have := hown.lt k e; omega)
        clear hown hgr hob hVs
        go_roundw
        case rel =>
          have hl1 : (D ++ [x]).length = D.length + 1 := by simp
          exact ⟨i + 1, D ++ [x], VA', VC', hp, by simp, by rw [hl1], by rw [hl1]; omega, by rw [hl1, List.map_append]; exact hown', hk3, by unfold Hid; rw [hinv.out, HST.out]; simp⟩
        case measure =>
          simp [intOf]
          omega
    · have d1 : decide ((i : Int) < n) = false := by simp; omega
      obtain ⟨A2, c2, hVe, hV⟩ := own_sl hown
      injection hVe with e1 e2 e3
      subst e1 e3
      have hfin : linesF l = D := by
        rw [hinv.out, List.drop_eq_nil_of_le (by have := HL.out; omega)]
        simp [linesF]
      have HF := Lib.hid hfin
      clear hfin
      go_wp2_with fail
      go_ret
      exact ⟨VA, VC, by rw [HF.out]; rfl, by rw [HF.out]; exact hV, hk⟩
set_option maxHeartbeats 4000000 in
theorem rlines_any (A : Option Addr) (n c : Nat) (l : List Int) (w : World) (h : Sl w 1 A n c (l.map (Value.int .i32))) (hn : n ≤ 1000000) :
    Calls Try.prog 19 #[.slice A n c] w fun e w' => ∃ VA VC, e = .returned (.slice VA (linesF l).length VC) ∧ Sl w' 1 VA (linesF l).length VC ((linesF l).map (Value.int .i32)) ∧ Kept w w' := by
  have hcap := h.cap
  have hmax := h.max
  have HL := Lib.hid h.llen1
  go_enter Try.func19, Try.ntmps19
  go_wp2_with fail
  go_loopw [3, 4] (fun v u wr => ∃ (i : Nat) (D : List Int) (VA : Option Addr) (VC : Nat), i ≤ n ∧ u = .int .i64 i ∧ v = .slice VA D.length VC ∧ D.length ≤ i ∧ wr.ownsRow w.heap.size 21 1 (.slice VA D.length VC) D.length (D.map (Value.int .i32)) ∧ Kept w wr ∧ Hid (linesF l = D ++ linesF (l.drop i)))
    (fun _ u _ => n - (intOf u).toNat)
  case atStart => exact ⟨0, [], none, 0, Nat.zero_le _, rfl, rfl, Nat.le_refl _, World.ownsRow_nil _ _ _ _, Kept.refl _, rfl⟩
  case round =>
    obtain ⟨i, D, VA, VC, hin, rfl, rfl, hD, hown, hk, hinv⟩ := hrel
    by_cases hp : i < n
    · obtain ⟨b, o, x, rfl, hx, hcx, hb⟩ := (h.kept hk).oneb (k := i) hp
      have l0 : (0 : Int) ≤ i := by omega
      have l1 : (i : Int) < n := by omega
      have hdr := drop_get hx
      have wa : IntKind.i64.wrap ((i : Int) + 1) = (i : Int) + 1 := IntWalk.i64_in _ (by omega)
      have wb : IntKind.i64.wrap ((i : Int) + 1 + 1) = (i : Int) + 1 + 1 := IntWalk.i64_in _ (by omega)
      have hsz := hk.size
      by_cases hx13 : x = 13
      · subst hx13
        by_cases hi1 : i + 1 < n
        · obtain ⟨b', o', y, he, hy, hcy, _⟩ := (h.kept hk).oneb (k := i + 1) hi1
          injection he with he
          injection he with e1 e2
          subst e1 e2
          have d1 : decide ((i : Int) + 1 < n) = true := by simp; omega
          have j0 : (0 : Int) ≤ (i : Int) + 1 := by omega
          have j1 : (i : Int) + 1 < n := by omega
          have j2 : ((i : Int) + 1).toNat = i + 1 := by omega
          by_cases hy10 : y = 10
          · subst hy10
            have hst : linesF (l.drop i) = 10 :: linesF (l.drop (i + 2)) := by
              rw [hdr, drop_get hy, lines_crlf]
            have HST := Lib.hid hst
            clear hx hdr hst hy
            go_wp2_with (at_builtin; refine wpList_app (by rfl) _ _ (by rfl) appT_runes (by rfl) (hown.alloc _) (by rfl) (Sl.litg (by rfl) ?_ (by omega)) ?_ ?_ ?_ ?_; (exact rfl); (exact rfl); (omega); (simp; omega); (intro v' w' hown' hgr hob; obtain ⟨VA', VC', rfl, hVs⟩ := own_sl hown'))
            have hk3 : Kept w w' := (hk.alloc _).grown hgr (fun k e => by have := hown.lt k e; omega)
            clear hown hgr hob hVs
            go_roundw
            case rel =>
              have hl1 : (D ++ [(10 : Int)]).length = D.length + 1 := by simp
              exact ⟨i + 2, D ++ [10], VA', VC', hi1, by simp; omega, by rw [hl1], by rw [hl1]; omega, by rw [hl1, List.map_append]; exact hown', hk3, by unfold Hid; rw [hinv.out, HST.out]; simp⟩
            case measure =>
              simp [intOf]
              omega
          · have hst : linesF (l.drop i) = 10 :: linesF (l.drop (i + 1)) := by
              rw [hdr, lines_cr (by rw [List.head?_drop, hy]; simpa using hy10)]
            have HST := Lib.hid hst
            have d10 : (y == 10) = false := by simpa using hy10
            clear hx hdr hst hy hy10
            go_wp2_with (at_builtin; refine wpList_app (by rfl) _ _ (by rfl) appT_runes (by rfl) (hown.alloc _) (by rfl) (Sl.litg (by rfl) ?_ (by omega)) ?_ ?_ ?_ ?_; (exact rfl); (exact rfl); (omega); (simp; omega); (intro v' w' hown' hgr hob; obtain ⟨VA', VC', rfl, hVs⟩ := own_sl hown'))
            have hk3 : Kept w w' := (hk.alloc _).grown hgr (fun k e => by have := hown.lt k e; omega)
            clear hown hgr hob hVs
            go_roundw
            case rel =>
              have hl1 : (D ++ [(10 : Int)]).length = D.length + 1 := by simp
              exact ⟨i + 1, D ++ [10], VA', VC', hp, by simp, by rw [hl1], by rw [hl1]; omega, by rw [hl1, List.map_append]; exact hown', hk3, by unfold Hid; rw [hinv.out, HST.out]; simp⟩
            case measure =>
              simp [intOf]
              omega
        · have hst : linesF (l.drop i) = 10 :: linesF (l.drop (i + 1)) := by
            rw [hdr, lines_cr (by rw [List.head?_drop, List.getElem?_eq_none (by have := HL.out; omega)]; simp)]
          have HST := Lib.hid hst
          have d1 : decide ((i : Int) + 1 < n) = false := by simp; omega
          clear hx hdr hst
          go_wp2_with (at_builtin; refine wpList_app (by rfl) _ _ (by rfl) appT_runes (by rfl) (hown.alloc _) (by rfl) (Sl.litg (by rfl) ?_ (by omega)) ?_ ?_ ?_ ?_; (exact rfl); (exact rfl); (omega); (simp; omega); (intro v' w' hown' hgr hob; obtain ⟨VA', VC', rfl, hVs⟩ := own_sl hown'))
          have hk3 : Kept w w' := (hk.alloc _).grown hgr (fun k e => by have := hown.lt k e; omega)
          clear hown hgr hob hVs
          go_roundw
          case rel =>
            have hl1 : (D ++ [(10 : Int)]).length = D.length + 1 := by simp
            exact ⟨i + 1, D ++ [10], VA', VC', hp, by simp, by rw [hl1], by rw [hl1]; omega, by rw [hl1, List.map_append]; exact hown', hk3, by unfold Hid; rw [hinv.out, HST.out]; simp⟩
          case measure =>
            simp [intOf]
            omega
      · have hst : linesF (l.drop i) = x :: linesF (l.drop (i + 1)) := by rw [hdr, lines_ne hx13]
        have HST := Lib.hid hst
        have d13 : (x == 13) = false := by simpa using hx13
        clear hx hdr hst hx13
        go_wp2_with (at_builtin; refine wpList_app (by rfl) _ _ (by rfl) appT_runes (by rfl) (hown.alloc _) (by rfl) (Sl.litg (by rfl) ?_ (by omega)) ?_ ?_ ?_ ?_; (exact rfl); (exact rfl); (omega); (simp; omega); (intro v' w' hown' hgr hob; obtain ⟨VA', VC', rfl, hVs⟩ := own_sl hown'))
        have hk3 : Kept w w' := (hk.alloc _).grown hgr (fun k e => by have := hown.lt k e; omega)
        clear hown hgr hob hVs
        go_roundw
        case rel =>
          have hl1 : (D ++ [x]).length = D.length + 1 := by simp
          exact ⟨i + 1, D ++ [x], VA', VC', hp, by simp, by rw [hl1], by rw [hl1]; omega, by rw [hl1, List.map_append]; exact hown', hk3, by unfold Hid; rw [hinv.out, HST.out]; simp⟩
        case measure =>
          simp [intOf]
          omega
    · have d1 : decide ((i : Int) < n) = false := by simp; omega
      obtain ⟨A2, c2, hVe, hV⟩ := own_sl hown
      injection hVe with e1 e2 e3
      subst e1 e3
      have hfin : linesF l = D := by
        rw [hinv.out, List.drop_eq_nil_of_le (by have := HL.out; omega)]
        simp [linesF]
      have HF := Lib.hid hfin
      clear hfin
      go_wp2_with fail
      go_ret
      exact ⟨VA, VC, by rw [HF.out]; rfl, by rw [HF.out]; exact hV, hk⟩
set_option maxHeartbeats 4000000 in
theorem lawLines_any (A : Option Addr) (n c : Nat) (l : List Int) (w : World) (h : Sl w 1 A n c (l.map (Value.int .i32))) :
    Calls Try.prog 6 #[.slice A n c] w fun e w' => e = .returned (.bool true) ∧ Kept w w' := by
  go_enter Try.func6, Try.ntmps6
  go_wp2_with fail
  refine (few_any _ _ _ _ _ h).mono ?_
  rintro e w1 ⟨C1, rfl, h1, k1⟩
  have hN : min n 100 ≤ 100 := Nat.min_le_right _ _
  obtain ⟨N, hNe⟩ : ∃ N, min n 100 = N := ⟨_, rfl⟩
  rw [hNe] at h1 hN ⊢
  obtain ⟨L, hLe⟩ : ∃ L, l.take 100 = L := ⟨_, rfl⟩
  rw [hLe] at h1
  clear hNe hLe
  go_wp2_with fail
  refine (lines_any _ _ _ L _ h1 (by omega)).mono ?_
  rintro e w2 ⟨OA, OC, rfl, hO, k2⟩
  have hk2 := k1.trans k2
  have hLL := lines_len L
  have hl1 := h1.llen1
  have hno := Lib.hid (lines_no L)
  have hid := Lib.hid (lines_id (linesF L) (lines_no L))
  obtain ⟨M, hM⟩ : ∃ M, (linesF L).length = M := ⟨_, rfl⟩
  rw [hM] at hO hLL ⊢
  have hcap := hO.cap
  have hmax := hO.max
  have HM := Lib.hid hM
  clear hM
  go_wp2_with fail
  go_loopw [12] (fun u wr => ∃ k : Nat, k ≤ M ∧ u = .int .i64 k ∧ Kept w2 wr) (fun u _ => M - (intOf u).toNat)
  case atStart => exact ⟨0, Nat.zero_le _, rfl, Kept.refl _⟩
  case round =>
    obtain ⟨k, hkM, rfl, hk⟩ := hrel
    by_cases hp : k < M
    · obtain ⟨b, o, x, rfl, hx, hcx, hb⟩ := (hO.kept hk).oneb (k := k) hp
      have d13 : (x == 13) = false := by simpa using hno.out x (List.mem_of_getElem? hx)
      have l0 : (0 : Int) ≤ k := by omega
      have l1 : (k : Int) < M := by omega
      clear hx
      go_wp2_with fail
      go_roundw
      case rel => exact ⟨k + 1, hp, by simp, hk⟩
      case measure =>
        simp [intOf]
        omega
    · have d1 : decide ((k : Int) < M) = false := by simp; omega
      have hK3 := hk2.trans hk
      have h3 := (h1.kept k2).kept hk
      have hO3 := hO.kept hk
      clear hk hO h1 k1 k2
      go_wp2_with fail
      refine (rlines_any _ _ _ L _ h3 (by omega)).mono ?_
      rintro e w4 ⟨RA, RC, rfl, hR, k4⟩
      have hO4 := hO3.kept k4
      rw [HM.out] at hR ⊢
      go_wp2_with fail
      refine (same_any _ _ _ _ _ _ _ hO4 hR (by omega)).mono ?_
      rintro e w5 ⟨rfl, k5⟩
      have hO5 := hO4.kept k5
      have hK5 := (hK3.trans k4).trans k5
      clear hO3 hO4 hR k4 k5 hK3
      go_wp2_with fail
      refine (lines_any _ _ _ (linesF L) _ hO5 (by omega)).mono ?_
      rintro e w6 ⟨SA, SC, rfl, hS, k6⟩
      rw [hid.out, HM.out] at hS ⊢
      have hO6 := hO5.kept k6
      go_wp2_with fail
      refine (same_any _ _ _ _ _ _ _ hS hO6 (by omega)).mono ?_
      rintro e w7 ⟨rfl, k7⟩
      have hK7 := (hK5.trans k6).trans k7
      clear hO5 hO6 hS k6 k7 hK5
      go_wp2_with fail
      refine (awake_any _).mono ?_
      rintro e w8 ⟨rfl, k8⟩
      go_wp2_with fail
      go_ret
      exact ⟨rfl, hK7.trans k8⟩
end Go.Proofs.Ytennpgdoepdboaa
