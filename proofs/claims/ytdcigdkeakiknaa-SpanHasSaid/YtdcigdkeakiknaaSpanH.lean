/- The law SpanHas, walked. -/
import Derived.Test.YtdcigdkeakiknaaSpanA
namespace Go.Proofs.Ytdcigdkeakiknaa
open Go.RowKit
attribute [local go_sem ↓] Go.wp_at_zero Go.wp_at_succ

/-- What the law's variables hold. -/
structure F8 (wx : World) (B g g' : Nat) (f t f' t' : Int) : Prop where
  a1 : wx.cell? ⟨g, 0, none⟩ = some (.int .i64 f)
  a2 : wx.cell? ⟨g, 1, none⟩ = some (.int .i64 t)
  a3 : wx.cell? ⟨g', 0, none⟩ = some (.int .i64 f')
  a4 : wx.cell? ⟨g', 1, none⟩ = some (.int .i64 t')
  a5 : wx.cell? ⟨B, 0, none⟩ = some (.int .i64 f)
  a6 : wx.cell? ⟨B, 1, none⟩ = some (.int .i64 t)
  a7 : wx.cell? ⟨B + 1, 0, none⟩ = some (.int .i64 f')
  a8 : wx.cell? ⟨B + 1, 1, none⟩ = some (.int .i64 t')
theorem F8.kept {wx wy : World} {B g g' : Nat} {f t f' t' : Int} (h : F8 wx B g g' f t f' t') (k : Kept wx wy) : F8 wy B g g' f t f' t' :=
  ⟨k.cell h.a1, k.cell h.a2, k.cell h.a3, k.cell h.a4, k.cell h.a5, k.cell h.a6, k.cell h.a7, k.cell h.a8⟩
theorem F8.lt {wx : World} {B g g' : Nat} {f t f' t' : Int} (h : F8 wx B g g' f t f' t') : g < wx.heap.size ∧ g' < wx.heap.size ∧ B + 1 < wx.heap.size ∧ B < wx.heap.size :=
  ⟨World.block_lt_of_cell? _ _ h.a1, World.block_lt_of_cell? _ _ h.a3, World.block_lt_of_cell? _ _ h.a7, World.block_lt_of_cell? _ _ h.a5⟩
/-- What two spans have together. -/
def Jn (f t f' t' j k : Int) : Prop := (t ≤ f → t' ≤ f' → j = 0 ∧ k = 0) ∧ (t ≤ f → f' < t' → j = f' ∧ k = t') ∧ (f < t → t' ≤ f' → j = f ∧ k = t) ∧
  (f < t → f' < t' → (j = f ∨ j = f') ∧ j ≤ f ∧ j ≤ f' ∧ (k = t ∨ k = t') ∧ t ≤ k ∧ t' ≤ k)
theorem joined_jn (f t f' t' : Int) : Jn f t f' t' (joinedF f t f' t').1 (joinedF f t f' t').2 := by
  unfold Jn joinedF
  refine ⟨fun h1 h2 => ?_, fun h1 h2 => ?_, fun h1 h2 => ?_, fun h1 h2 => ?_⟩
  · simp [h1, h2]
  · rw [if_pos h1, if_neg (by omega)]; exact ⟨rfl, rfl⟩
  · rw [if_neg (by omega), if_pos h2]; exact ⟨rfl, rfl⟩
  · rw [if_neg (by omega), if_neg (by omega)]
    dsimp only
    refine ⟨?_, ?_, ?_, ?_, ?_, ?_⟩ <;> (repeat' split) <;> omega
theorem meets_iff (f t f' t' : Int) : meetsF f t f' t' = true ↔ (f < t ∧ f' < t' ∧ f < t' ∧ f' < t) := by
  simp [meetsF, emptyF]
  omega

/-- The first place that both may have, and whether both have one. -/
def meetsG (f t f' t' : Int) : Bool := decide (max f f' < t) && decide (max f f' < t') && decide (f ≤ max f f') && decide (f' ≤ max f f')
theorem meetsG_eq (f t f' t' : Int) : meetsG f t f' t' = meetsF f t f' t' := by
  rw [Bool.eq_iff_iff, meets_iff]
  unfold meetsG
  simp
  omega

set_option maxRecDepth 100000 in
set_option maxHeartbeats 20000000 in
theorem spanHas_any (f t f' t' x : Int) (w : World) :
    Calls Try.prog 5 #[.agg #[.int .i64 f, .int .i64 t], .agg #[.int .i64 f', .int .i64 t'], .int .i64 x] w fun e w' => e = .returned (.bool true) ∧ Kept w w' := by
  go_enter Try.func5, Try.ntmps5
  go_upto_region 1 with fail
  go_cut [7, 8] (fun p q wx => ∃ g g' : Nat, p = .pointer (some ⟨g, 0, none⟩) ∧ q = .pointer (some ⟨g', 0, none⟩) ∧ wx.cell? ⟨g, 0, none⟩ = some (.int .i64 f) ∧ wx.cell? ⟨g, 1, none⟩ = some (.int .i64 t) ∧ wx.cell? ⟨g', 0, none⟩ = some (.int .i64 f') ∧ wx.cell? ⟨g', 1, none⟩ = some (.int .i64 t') ∧
    wx.cell? ⟨w.heap.size, 0, none⟩ = some (.int .i64 f) ∧ wx.cell? ⟨w.heap.size, 1, none⟩ = some (.int .i64 t) ∧ wx.cell? ⟨w.heap.size + 1, 0, none⟩ = some (.int .i64 f') ∧ wx.cell? ⟨w.heap.size + 1, 1, none⟩ = some (.int .i64 t') ∧ w.heap.size + 1 < wx.heap.size ∧ g < wx.heap.size ∧ g' < wx.heap.size ∧ Kept w wx)
  case first =>
    as_aux_lemma =>
      go_region_held3 (fun w' => w'.cell? ⟨w.heap.size, 0, none⟩ = some (.int .i64 f) ∧ w'.cell? ⟨w.heap.size, 1, none⟩ = some (.int .i64 t) ∧ w'.cell? ⟨w.heap.size + 1, 0, none⟩ = some (.int .i64 f') ∧ w'.cell? ⟨w.heap.size + 1, 1, none⟩ = some (.int .i64 t')) (refine ⟨?_, ?_, ?_, ?_⟩ <;> simp [go_sem])
        (first | (go_at_call 12; refine (ours_any _ _ _).mono ?_; rintro e w1 ⟨rfl, rfl⟩))
      all_goals
        go_wp2_with fail
        go_meet
        refine ⟨_, _, rfl, rfl, ?_, ?_, ?_, ?_, ?_, ?_, ?_, ?_, ?_, ?_, ?_, ?_⟩
        rotate_right
        · repeat (first | exact Kept.refl _ | refine Kept.alloc ?_ _ | refine Kept.drew ?_)
        all_goals simp [go_sem]
        all_goals omega
  case rest =>
    obtain ⟨g, g', rfl, rfl, a1, a2, a3, a4, a5, a6, a7, a8, a9, a10, a11, hk⟩ := hcut
    have F_0 : F8 wc w.heap.size g g' f t f' t' := ⟨a1, a2, a3, a4, a5, a6, a7, a8⟩
    go_upto_region 2 with fail
    go_cut [9] (fun s wx => s = .bool (hasF f t x) ∧ wx = wc)
    case first =>
      as_aux_lemma =>
        cases d1 : decide (f ≤ x) <;> cases d2 : decide (x < t)
        all_goals
          go_wp2_with fail
          go_meet
          exact ⟨by simp [hasF, d1, d2], rfl⟩
    case rest =>
    obtain ⟨rfl, rfl⟩ := hcut
    go_upto_region 3 with fail
    go_cut [10] (fun s wx => s = .bool (hasF f' t' x) ∧ wx = wc)
    case first =>
      as_aux_lemma =>
        cases d1 : decide (f' ≤ x) <;> cases d2 : decide (x < t')
        all_goals
          go_wp2_with fail
          go_meet
          exact ⟨by simp [hasF, d1, d2], rfl⟩
    case rest =>
    obtain ⟨rfl, rfl⟩ := hcut
    obtain ⟨j, m, hjm⟩ : ∃ j m, joinedF f t f' t' = (j, m) := ⟨_, _, rfl⟩
    have hJ := joined_jn f t f' t'
    rw [hjm] at hJ
    have HJ := Lib.hid hJ
    have HM := Lib.hid (meets_iff f t f' t')
    clear hJ
    go_upto_region 4 with fail
    go_cut [11] (fun s wx => ∃ gj : Nat, s = .pointer (some ⟨gj, 0, none⟩) ∧ F8 wx w.heap.size g g' f t f' t' ∧ wx.cell? ⟨gj, 0, none⟩ = some (.int .i64 j) ∧ wx.cell? ⟨gj, 1, none⟩ = some (.int .i64 m) ∧ Kept w wx)
    case first =>
      as_aux_lemma =>
        go_wp2_with fail
        refine (joined_any f t f' t' _).mono ?_
        rintro e w1 ⟨rfl, hk1⟩
        rw [hjm]
        have F_1 := F_0.kept hk1
        obtain ⟨l1, l2, l3, l4⟩ := F_1.lt
        clear hjm
        go_wp2_with fail
        go_meet
        exact ⟨_, rfl, F_1.kept ((Kept.refl _).alloc _), by simp [go_sem], by simp [go_sem], (hk.trans hk1).alloc _⟩
    case rest =>
    clear a1 a2 a3 a4 a5 a6 a7 a8 a9 a10 a11 F_0 hk hjm
    obtain ⟨gj, rfl, F_0, j0, j1, hk⟩ := hcut
    obtain ⟨a1, a2, a3, a4, a5, a6, a7, a8⟩ := id F_0
    go_upto_region 5 with fail
    go_cut [9, 10, 75] (fun s9 s10 s wx => s9 = .bool (hasF f t x) ∧ s10 = .bool (hasF f' t' x) ∧ s = .bool false ∧ Kept wc wx)
    case first =>
      as_aux_lemma =>
        have hk0 := Kept.refl wc
        cases hi : hasF f t x <;> cases ha : hasF f' t' x
        · go_wp2_with (first | (go_at_call 15; refine (has_any _ _ _ _).mono ?_; rintro e wy ⟨rfl, hky⟩; replace F_0 := F_0.kept hky; obtain ⟨a1, a2, a3, a4, a5, a6, a7, a8⟩ := id F_0; replace j0 := hky.cell j0; replace j1 := hky.cell j1; replace hk0 := hk0.trans hky) | (go_at_call 16; refine (meets_any _ _ _ _ _).mono ?_; rintro e wy ⟨rfl, hky⟩; replace F_0 := F_0.kept hky; obtain ⟨a1, a2, a3, a4, a5, a6, a7, a8⟩ := id F_0; replace j0 := hky.cell j0; replace j1 := hky.cell j1; replace hk0 := hk0.trans hky))
          go_meet
          exact ⟨by rw [hi], by rw [ha], rfl, hk0⟩
        · have hJx : hasF j m x = true := by
            have := HJ.out
            unfold Jn at this
            simp [hasF] at hi ha ⊢
            omega
          go_wp2_with (first | (go_at_call 15; refine (has_any _ _ _ _).mono ?_; rintro e wy ⟨rfl, hky⟩; replace F_0 := F_0.kept hky; obtain ⟨a1, a2, a3, a4, a5, a6, a7, a8⟩ := id F_0; replace j0 := hky.cell j0; replace j1 := hky.cell j1; replace hk0 := hk0.trans hky) | (go_at_call 16; refine (meets_any _ _ _ _ _).mono ?_; rintro e wy ⟨rfl, hky⟩; replace F_0 := F_0.kept hky; obtain ⟨a1, a2, a3, a4, a5, a6, a7, a8⟩ := id F_0; replace j0 := hky.cell j0; replace j1 := hky.cell j1; replace hk0 := hk0.trans hky))
          go_meet
          exact ⟨by rw [hi], by rw [ha], rfl, hk0⟩
        · have hJx : hasF j m x = true := by
            have := HJ.out
            unfold Jn at this
            simp [hasF] at hi ha ⊢
            omega
          go_wp2_with (first | (go_at_call 15; refine (has_any _ _ _ _).mono ?_; rintro e wy ⟨rfl, hky⟩; replace F_0 := F_0.kept hky; obtain ⟨a1, a2, a3, a4, a5, a6, a7, a8⟩ := id F_0; replace j0 := hky.cell j0; replace j1 := hky.cell j1; replace hk0 := hk0.trans hky) | (go_at_call 16; refine (meets_any _ _ _ _ _).mono ?_; rintro e wy ⟨rfl, hky⟩; replace F_0 := F_0.kept hky; obtain ⟨a1, a2, a3, a4, a5, a6, a7, a8⟩ := id F_0; replace j0 := hky.cell j0; replace j1 := hky.cell j1; replace hk0 := hk0.trans hky))
          go_meet
          exact ⟨by rw [hi], by rw [ha], rfl, hk0⟩
        · have hJx : hasF j m x = true := by
            have := HJ.out
            unfold Jn at this
            simp [hasF] at hi ha ⊢
            omega
          have hM := (meets_iff f t f' t').2 (by simp [hasF] at hi ha; omega)
          have hM2 := (meets_iff f' t' f t).2 (by simp [hasF] at hi ha; omega)
          go_wp2_with (first | (go_at_call 15; refine (has_any _ _ _ _).mono ?_; rintro e wy ⟨rfl, hky⟩; replace F_0 := F_0.kept hky; obtain ⟨a1, a2, a3, a4, a5, a6, a7, a8⟩ := id F_0; replace j0 := hky.cell j0; replace j1 := hky.cell j1; replace hk0 := hk0.trans hky) | (go_at_call 16; refine (meets_any _ _ _ _ _).mono ?_; rintro e wy ⟨rfl, hky⟩; replace F_0 := F_0.kept hky; obtain ⟨a1, a2, a3, a4, a5, a6, a7, a8⟩ := id F_0; replace j0 := hky.cell j0; replace j1 := hky.cell j1; replace hk0 := hk0.trans hky))
          go_meet
          exact ⟨by rw [hi], by rw [ha], rfl, hk0⟩
    case rest =>
    obtain ⟨rfl, rfl, rfl, hk0⟩ := hcut
    have F_1 := F_0.kept hk0
    replace j0 := hk0.cell j0
    replace j1 := hk0.cell j1
    have hk1 := hk.trans hk0
    clear a1 a2 a3 a4 a5 a6 a7 a8 F_0 hk hk0
    obtain ⟨a1, a2, a3, a4, a5, a6, a7, a8⟩ := id F_1
    go_upto_if 81 with fail
    go_cut [12] (fun s wx => s = .int .i64 (max f f') ∧ wx = wc)
    case first =>
      as_aux_lemma =>
        rcases (show f < f' ∨ f' ≤ f by omega) with hlt | hle
        · have d1 : decide (f < f') = true := by simpa using hlt
          go_wp2_with fail
          go_meet
          exact ⟨by rw [Int.max_eq_right (by omega)], rfl⟩
        · have d1 : decide (f < f') = false := by simp; omega
          go_wp2_with fail
          go_meet
          exact ⟨by rw [Int.max_eq_left (by omega)], rfl⟩
    case rest =>
    obtain ⟨rfl, rfl⟩ := hcut
    have hG := meetsG_eq f t f' t'
    unfold meetsG at hG
    obtain ⟨M, hMx⟩ : ∃ M, max f f' = M := ⟨_, rfl⟩
    rw [hMx] at hG ⊢
    have e1 : f ≤ M := by omega
    have e2 : f' ≤ M := by omega
    have d3 : decide (f ≤ M) = true := by simpa using e1
    have d4 : decide (f' ≤ M) = true := by simpa using e2
    have HG := Lib.hid hG
    clear hG hMx e1 e2
    go_upto_region 10 with fail
    go_cut [13] (fun s wx => s = .bool (meetsF f t f' t') ∧ wx = wc)
    case first =>
      as_aux_lemma =>
        cases d1 : decide (M < t) <;> cases d2 : decide (M < t')
        all_goals
          go_wp2_with fail
          go_meet
          exact ⟨by rw [← HG.out, d1, d2, d3, d4]; rfl, rfl⟩
    case rest =>
    obtain ⟨rfl, rfl⟩ := hcut
    clear d3 d4 HG
    go_wp2_with fail
    refine (meets_any _ _ _ _ _).mono ?_
    rintro e wy ⟨rfl, hky⟩
    replace F_1 := F_1.kept hky
    obtain ⟨a1, a2, a3, a4, a5, a6, a7, a8⟩ := id F_1
    replace j0 := hky.cell j0
    replace j1 := hky.cell j1
    replace hk1 := hk1.trans hky
    clear hky
    have hj := HJ.out
    unfold Jn at hj
    rcases (show t ≤ f ∨ f < t by omega) with h1 | h1 <;> rcases (show t' ≤ f' ∨ f' < t' by omega) with h2 | h2
    · obtain ⟨rfl, rfl⟩ := hj.1 h1 h2
      have d1 : decide (t ≤ f) = true := by simpa using h1
      have d2 : decide (t' ≤ f') = true := by simpa using h2
      clear hj HJ HM h1 h2
      as_aux_lemma =>
      go_wp2_with (first | (go_at_call 11; refine (awake_any _).mono ?_; rintro e wy ⟨rfl, hky⟩))
      go_ret
      exact ⟨rfl, hk1.trans hky⟩
    · obtain ⟨rfl, rfl⟩ := hj.2.1 h1 h2
      have d1 : decide (t ≤ f) = true := by simpa using h1
      have d2 : decide (m ≤ j) = false := by simp; omega
      have d3 : decide (f < t) = false := by simp; omega
      have d4 : decide (j < m) = true := by simpa using h2
      clear hj HJ HM h1 h2
      cases x1 : (j == f) <;> cases x2 : (m == t)
      all_goals
        as_aux_lemma =>
        go_wp2_with (first | (go_at_call 11; refine (awake_any _).mono ?_; rintro e wy ⟨rfl, hky⟩))
        go_ret
        exact ⟨rfl, hk1.trans hky⟩
    · obtain ⟨rfl, rfl⟩ := hj.2.2.1 h1 h2
      have d1 : decide (m ≤ j) = false := by simp; omega
      have d3 : decide (j < m) = true := by simpa using h1
      clear hj HJ HM h1 h2
      as_aux_lemma =>
      go_wp2_with (first | (go_at_call 11; refine (awake_any _).mono ?_; rintro e wy ⟨rfl, hky⟩))
      go_ret
      exact ⟨rfl, hk1.trans hky⟩
    · obtain ⟨q1, _, _, q2, _, _⟩ := hj.2.2.2 h1 h2
      have d1 : decide (t ≤ f) = false := by simp; omega
      have d2 : decide (t' ≤ f') = false := by simp; omega
      have d3 : decide (f < t) = true := by simpa using h1
      have d4 : decide (f' < t') = true := by simpa using h2
      have x1' : (j == f) = false → (j == f') = true := by simp; omega
      have x2' : (m == t) = false → (m == t') = true := by simp; omega
      clear hj HJ HM h1 h2 q1 q2
      cases x1 : (j == f) <;> cases x2 : (m == t)
      · have x3 := x1' x1
        have x4 := x2' x2
        clear x1' x2'
        as_aux_lemma =>
        go_wp2_with (first | (go_at_call 11; refine (awake_any _).mono ?_; rintro e wy ⟨rfl, hky⟩))
        go_ret
        exact ⟨rfl, hk1.trans hky⟩
      · have x3 := x1' x1
        clear x1' x2'
        as_aux_lemma =>
        go_wp2_with (first | (go_at_call 11; refine (awake_any _).mono ?_; rintro e wy ⟨rfl, hky⟩))
        go_ret
        exact ⟨rfl, hk1.trans hky⟩
      · have x4 := x2' x2
        clear x1' x2'
        as_aux_lemma =>
        go_wp2_with (first | (go_at_call 11; refine (awake_any _).mono ?_; rintro e wy ⟨rfl, hky⟩))
        go_ret
        exact ⟨rfl, hk1.trans hky⟩
      · clear x1' x2'
        as_aux_lemma =>
        go_wp2_with (first | (go_at_call 11; refine (awake_any _).mono ?_; rintro e wy ⟨rfl, hky⟩))
        go_ret
        exact ⟨rfl, hk1.trans hky⟩
end Go.Proofs.Ytdcigdkeakiknaa
