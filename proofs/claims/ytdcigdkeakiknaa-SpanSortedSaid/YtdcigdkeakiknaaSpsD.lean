/- Which diag stands ahead: the order, walked. -/
import Derived.Test.YtdcigdkeakiknaaSpsC
import Derived.Test.YtdcigdkeakiknaaQuiet
namespace Go.Proofs.Ytdcigdkeakiknaa
open Go.RowKit
attribute [local go_sem ↓] Go.wp_at_zero Go.wp_at_succ

def cmpI (a b : Int) : Int := if a < b then -1 else if b < a then 1 else 0
theorem isNaN_any (a : Int) (w : World) : Calls Try.prog 33 #[.int .i64 a] w fun e w' => e = .returned (.bool false) ∧ w = w' := by
  go_enter Try.func33, Try.ntmps33
  go_wp2_with fail
  go_ret
  exact ⟨ret_bool (by simp), rfl⟩
theorem compare_any (a b : Int) (w : World) : Calls Try.prog 30 #[.int .i64 a, .int .i64 b] w fun e w' => e = .returned (.int .i64 (cmpI a b)) ∧ w = w' := by
  unfold cmpI
  rcases (show a < b ∨ b < a ∨ a = b by omega) with h | h | h
  · rw [if_pos h]
    go_enter Try.func30, Try.ntmps30
    go_wp2_with (go_at_call 33; refine (isNaN_any _ _).mono ?_; rintro e w' ⟨rfl, rfl⟩)
    go_ret
    exact ⟨rfl, rfl⟩
  · have h' : ¬ a < b := by omega
    rw [if_neg h', if_pos h]
    go_enter Try.func30, Try.ntmps30
    go_wp2_with (go_at_call 33; refine (isNaN_any _ _).mono ?_; rintro e w' ⟨rfl, rfl⟩)
    go_ret
    exact ⟨rfl, rfl⟩
  · subst h
    rw [if_neg (by omega), if_neg (by omega)]
    go_enter Try.func30, Try.ntmps30
    go_wp2_with (go_at_call 33; refine (isNaN_any _ _).mono ?_; rintro e w' ⟨rfl, rfl⟩)
    go_ret
    exact ⟨rfl, rfl⟩
theorem cmpI_zero {a b : Int} : cmpI a b = 0 ↔ a = b := by
  unfold cmpI
  (repeat' split) <;> omega
def or3 (x y z : Int) : Int := if x = 0 then (if y = 0 then z else y) else x
/-- 'cmp.Or' of three numbers. -/
theorem or3_any (b : Nat) (x y z : Int) (w : World) (h0 : w.cell? ⟨b, 0, none⟩ = some (.int .i64 x)) (h1 : w.cell? ⟨b, 1, none⟩ = some (.int .i64 y)) (h2 : w.cell? ⟨b, 2, none⟩ = some (.int .i64 z)) :
    Calls Try.prog 29 #[.slice (some ⟨b, 0, none⟩) 3 3] w fun e w' => e = .returned (.int .i64 (or3 x y z)) ∧ w = w' := by
  unfold or3
  by_cases hx : x = 0
  · subst hx
    rw [if_pos rfl]
    by_cases hy : y = 0
    · subst hy
      rw [if_pos rfl]
      by_cases hz : z = 0
      · subst hz
        go_enter Try.func29, Try.ntmps29
        go_wp2_with fail
        refine wp_loop_rounds 4 ?_
        rw [rounds_succ]
        go_wp2_with fail
        rw [rounds_succ]
        go_wp2_with fail
        rw [rounds_succ]
        go_wp2_with fail
        rw [rounds_succ]
        go_wp2_with fail
        go_ret
        exact ⟨rfl, rfl⟩
      · have d1 : (z != 0) = true := by simpa using hz
        go_enter Try.func29, Try.ntmps29
        go_wp2_with fail
        refine wp_loop_rounds 3 ?_
        rw [rounds_succ]
        go_wp2_with fail
        rw [rounds_succ]
        go_wp2_with fail
        rw [rounds_succ]
        go_wp2_with fail
        go_ret
        exact ⟨rfl, rfl⟩
    · rw [if_neg hy]
      have d1 : (y != 0) = true := by simpa using hy
      go_enter Try.func29, Try.ntmps29
      go_wp2_with fail
      refine wp_loop_rounds 2 ?_
      rw [rounds_succ]
      go_wp2_with fail
      rw [rounds_succ]
      go_wp2_with fail
      go_ret
      exact ⟨rfl, rfl⟩
  · rw [if_neg hx]
    have d1 : (x != 0) = true := by simpa using hx
    go_enter Try.func29, Try.ntmps29
    go_wp2_with fail
    refine wp_loop_rounds 1 ?_
    rw [rounds_succ]
    go_wp2_with fail
    go_ret
    exact ⟨rfl, rfl⟩
def ordD (x y : Dg) : Int := or3 (cmpI x.f y.f) (cmpI x.t y.t) (cmpI x.k y.k)
def ltD (x y : Dg) : Bool := decide (x.f < y.f) || (decide (x.f = y.f) && (decide (x.t < y.t) || (decide (x.t = y.t) && decide (x.k < y.k))))
theorem ordD_lt (x y : Dg) : decide (ordD x y < 0) = ltD x y := by
  unfold ordD ltD or3 cmpI
  rw [Bool.eq_iff_iff]
  simp
  (repeat' split) <;> omega
theorem ltD_strict : StrictLt ltD := by
  refine ⟨fun x => by simp [ltD], fun x y z h1 h2 => ?_, fun x y z h1 h2 => ?_, fun x y h1 h2 => ?_⟩
  · unfold ltD at *
    simp at *
    omega
  · unfold ltD at *
    simp at *
    omega
  · unfold ltD at *
    simp at *
    obtain ⟨xf, xt, xk⟩ := x
    obtain ⟨yf, yt, yk⟩ := y
    dsimp only at *
    have e1 : xf = yf := by omega
    have e2 : xt = yt := by omega
    have e3 : xk = yk := by omega
    rw [e1, e2, e3]
set_option maxHeartbeats 4000000 in
theorem order_any (x y : Dg) (w : World) : Calls Try.prog 25 #[.agg #[.int .i64 x.f, .int .i64 x.t, .int .i64 x.k], .agg #[.int .i64 y.f, .int .i64 y.t, .int .i64 y.k]] w fun e w' => e = .returned (.int .i64 (ordD x y)) ∧ Kept w w' := by
  have H1 := Lib.hid (fun w => compare_any x.f y.f w)
  have H2 := Lib.hid (fun w => compare_any x.t y.t w)
  have H3 := Lib.hid (fun w => compare_any x.k y.k w)
  have HV : Hid (ordD x y = or3 (cmpI x.f y.f) (cmpI x.t y.t) (cmpI x.k y.k)) := rfl
  generalize cmpI x.f y.f = c1 at H1 HV
  generalize cmpI x.t y.t = c2 at H2 HV
  generalize cmpI x.k y.k = c3 at H3 HV
  have HR : Hid (∀ b w', w'.cell? ⟨b, 0, none⟩ = some (.int .i64 c1) → w'.cell? ⟨b, 1, none⟩ = some (.int .i64 c2) → w'.cell? ⟨b, 2, none⟩ = some (.int .i64 c3) → Calls Try.prog 29 #[.slice (some ⟨b, 0, none⟩) 3 3] w' fun e w'' => e = .returned (.int .i64 (ordD x y)) ∧ w' = w'') := by
    intro b w' h0 h1 h2
    rw [HV.out]
    exact or3_any b c1 c2 c3 w' h0 h1 h2
  clear HV
  have K1 := ((Kept.refl w).alloc (.cells #[.int .i64 x.f, .int .i64 x.t, .int .i64 x.k] 52)).alloc (.cells #[.int .i64 y.f, .int .i64 y.t, .int .i64 y.k] 52)
  have B1 := (Blk.new w #[.int .i64 x.f, .int .i64 x.t, .int .i64 x.k] 52).alloc (.cells #[.int .i64 y.f, .int .i64 y.t, .int .i64 y.k] 52)
  have B2 := Blk.new (w.alloc (.cells #[.int .i64 x.f, .int .i64 x.t, .int .i64 x.k] 52)) #[.int .i64 y.f, .int .i64 y.t, .int .i64 y.k] 52
  go_enter Try.func25, Try.ntmps25
  go_upto_region 1 with fail
  generalize (w.alloc (.cells #[.int .i64 x.f, .int .i64 x.t, .int .i64 x.k] 52)).alloc (.cells #[.int .i64 y.f, .int .i64 y.t, .int .i64 y.k] 52) = w1 at K1 B1 B2 ⊢
  have B2' : Blk w1 (w.heap.size + 1) #[.int .i64 y.f, .int .i64 y.t, .int .i64 y.k] 52 := by simpa using B2
  clear B2
  obtain ⟨g1, hg1⟩ : ∃ g1, w.heap.size = g1 := ⟨_, rfl⟩
  obtain ⟨g2, hg2⟩ : ∃ g2, w.heap.size + 1 = g2 := ⟨_, rfl⟩
  rw [hg2] at B2' ⊢
  rw [hg1] at B1 ⊢
  clear hg1 hg2
  have bc := B1.cell
  have bd := B2'.cell
  have x0 : w1.cell? ⟨g1, 0, none⟩ = some (.int .i64 x.f) := bc 0
  have x1 : w1.cell? ⟨g1, 1, none⟩ = some (.int .i64 x.t) := bc 1
  have x2 : w1.cell? ⟨g1, 2, none⟩ = some (.int .i64 x.k) := bc 2
  have y0 : w1.cell? ⟨g2, 0, none⟩ = some (.int .i64 y.f) := bd 0
  have y1 : w1.cell? ⟨g2, 1, none⟩ = some (.int .i64 y.t) := bd 1
  have y2 : w1.cell? ⟨g2, 2, none⟩ = some (.int .i64 y.k) := bd 2
  clear bc bd
  go_region_held3 (fun w' => w'.cell? ⟨g1, 0, none⟩ = some (.int .i64 x.f) ∧ w'.cell? ⟨g1, 1, none⟩ = some (.int .i64 x.t) ∧ w'.cell? ⟨g1, 2, none⟩ = some (.int .i64 x.k) ∧ w'.cell? ⟨g2, 0, none⟩ = some (.int .i64 y.f) ∧ w'.cell? ⟨g2, 1, none⟩ = some (.int .i64 y.t) ∧ w'.cell? ⟨g2, 2, none⟩ = some (.int .i64 y.k)) (first | go_keep)
    (first
    | (go_at_call 30; first
      | ((with_reducible refine (H1.out _).mono ?_); rintro e w' ⟨rfl, rfl⟩)
      | ((with_reducible refine (H2.out _).mono ?_); rintro e w' ⟨rfl, rfl⟩)
      | ((with_reducible refine (H3.out _).mono ?_); rintro e w' ⟨rfl, rfl⟩))
    | (go_at_call 29; refine (HR.out _ _ (by simp [go_sem]) (by simp [go_sem]) (by simp [go_sem])).mono ?_; rintro e w' ⟨rfl, rfl⟩))
  all_goals
    go_wp2_with fail
    go_ret
    exact ⟨rfl, K1.drew.alloc _⟩
end Go.Proofs.Ytdcigdkeakiknaa
