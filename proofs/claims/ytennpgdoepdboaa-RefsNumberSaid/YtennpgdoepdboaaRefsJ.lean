/- Layer 7 at a &, the document's answer: Next: walked. -/
import Derived.Test.YtennpgdoepdboaaRefsI
namespace Go.Proofs.Ytennpgdoepdboaa
open Go.RowKit
attribute [local go_sem ↓] Go.wp_at_zero Go.wp_at_succ

set_option maxHeartbeats 4000000 in
theorem rnext_any (A : Option Addr) (n c : Nat) (l : List Int) (a : Nat) (w : World) (h : Sl w 1 A n c (l.map (Value.int .i32))) (hn : n ≤ 1000000) (ha : a < n) (h38 : l[a]? = some 38) (hr : Rn l) :
    Calls Try.prog 28 #[.slice A n c, .int .i64 a] w fun e w' => e = .returned (.agg (tokC l a)) ∧ Kept w w' := by
  have hcap := h.cap
  have hmax := h.max
  obtain ⟨b, o, x, rfl, hx, hc, hb⟩ := h.oneb (k := a) ha
  obtain rfl : x = 38 := by rw [h38] at hx; injection hx with hx; exact hx.symm
  have l0 : (0 : Int) ≤ a := by omega
  have l1 : (a : Int) < n := by omega
  have e38 : l.drop a = 38 :: l.drop (a + 1) := drop_get h38
  clear hx
  obtain ⟨tk, tt, tb, hT⟩ : ∃ tk tt tb, tokC l a = #[.int .i64 tk, .int .i64 a, .int .i64 tt, .bool tb] := ⟨_, _, _, rfl⟩
  have href : ∀ w', Kept w w' → Calls Try.prog 46 #[.slice (some ⟨b, o, none⟩) n c, .int .i64 a] w' fun e w'' => e = .returned (.agg #[.int .i64 tk, .int .i64 a, .int .i64 tt, .bool tb]) ∧ Kept w' w'' := by
    intro w' hk'
    rw [← hT]
    exact rref_any _ n c l a w' (h.kept hk') hn ha h38 hr
  have HR := Lib.hid href
  have HT := Lib.hid hT
  have st0 : ∀ w', Kept w w' → Calls Try.prog 40 #[.slice (some ⟨b, o, none⟩) n c, .int .i64 a, .string ⟨#[60, 33, 45, 45]⟩] w' fun e w'' => e = .returned (.bool false) ∧ Kept w' w'' := by
    intro w' hk'
    have := rstarts_any _ n c l a ⟨#[60, 33, 45, 45]⟩ w' (h.kept hk') (by decide) (by decide) hn (by omega) (by decide) hr
    rw [show startsF (strI ⟨#[60, 33, 45, 45]⟩) (l.drop a) = false from by rw [e38]; rfl] at this
    exact this
  have S0 := Lib.hid st0
  have st1 : ∀ w', Kept w w' → Calls Try.prog 40 #[.slice (some ⟨b, o, none⟩) n c, .int .i64 a, .string ⟨#[60, 33, 91, 67, 68, 65, 84, 65, 91]⟩] w' fun e w'' => e = .returned (.bool false) ∧ Kept w' w'' := by
    intro w' hk'
    have := rstarts_any _ n c l a ⟨#[60, 33, 91, 67, 68, 65, 84, 65, 91]⟩ w' (h.kept hk') (by decide) (by decide) hn (by omega) (by decide) hr
    rw [show startsF (strI ⟨#[60, 33, 91, 67, 68, 65, 84, 65, 91]⟩) (l.drop a) = false from by rw [e38]; rfl] at this
    exact this
  have S1 := Lib.hid st1
  have st2 : ∀ w', Kept w w' → Calls Try.prog 40 #[.slice (some ⟨b, o, none⟩) n c, .int .i64 a, .string ⟨#[60, 63]⟩] w' fun e w'' => e = .returned (.bool false) ∧ Kept w' w'' := by
    intro w' hk'
    have := rstarts_any _ n c l a ⟨#[60, 63]⟩ w' (h.kept hk') (by decide) (by decide) hn (by omega) (by decide) hr
    rw [show startsF (strI ⟨#[60, 63]⟩) (l.drop a) = false from by rw [e38]; rfl] at this
    exact this
  have S2 := Lib.hid st2
  have st3 : ∀ w', Kept w w' → Calls Try.prog 40 #[.slice (some ⟨b, o, none⟩) n c, .int .i64 a, .string ⟨#[60, 33, 68, 79, 67, 84, 89, 80, 69]⟩] w' fun e w'' => e = .returned (.bool false) ∧ Kept w' w'' := by
    intro w' hk'
    have := rstarts_any _ n c l a ⟨#[60, 33, 68, 79, 67, 84, 89, 80, 69]⟩ w' (h.kept hk') (by decide) (by decide) hn (by omega) (by decide) hr
    rw [show startsF (strI ⟨#[60, 33, 68, 79, 67, 84, 89, 80, 69]⟩) (l.drop a) = false from by rw [e38]; rfl] at this
    exact this
  have S3 := Lib.hid st3
  have st4 : ∀ w', Kept w w' → Calls Try.prog 40 #[.slice (some ⟨b, o, none⟩) n c, .int .i64 a, .string ⟨#[60, 47]⟩] w' fun e w'' => e = .returned (.bool false) ∧ Kept w' w'' := by
    intro w' hk'
    have := rstarts_any _ n c l a ⟨#[60, 47]⟩ w' (h.kept hk') (by decide) (by decide) hn (by omega) (by decide) hr
    rw [show startsF (strI ⟨#[60, 47]⟩) (l.drop a) = false from by rw [e38]; rfl] at this
    exact this
  have S4 := Lib.hid st4
  clear st0 st1 st2 st3 st4 href hT e38 h38 hr
  have hk0 : Kept w (w.alloc (.cells #[.int .i64 0, .int .i64 0, .int .i64 0, .bool false] 49)) := (Kept.refl _).alloc _
  have B0 := Blk.new w #[.int .i64 0, .int .i64 0, .int .i64 0, .bool false] 49
  have hcw := fun w' (hk' : Kept w w') => hk'.cell hc
  have HC := Lib.hid hcw
  clear hcw
  go_enter Try.func28, Try.ntmps28
  go_wp2_with fail
  refine (S0.out _ hk0).mono ?_
  rintro e w1 ⟨rfl, k1⟩
  have hk1 := hk0.trans k1
  have B1 := B0.kept k1
  clear B0 hk0 k1
  go_wp2_with fail
  refine (S1.out _ hk1).mono ?_
  rintro e w2 ⟨rfl, k2⟩
  have hk2 := hk1.trans k2
  have B2 := B1.kept k2
  clear B1 hk1 k2
  go_wp2_with fail
  refine (S2.out _ hk2).mono ?_
  rintro e w3 ⟨rfl, k3⟩
  have hk3 := hk2.trans k3
  have B3 := B2.kept k3
  clear B2 hk2 k3
  go_wp2_with fail
  refine (S3.out _ hk3).mono ?_
  rintro e w4 ⟨rfl, k4⟩
  have hk4 := hk3.trans k4
  have B4 := B3.kept k4
  clear B3 hk3 k4
  go_wp2_with fail
  refine (S4.out _ hk4).mono ?_
  rintro e w5 ⟨rfl, k5⟩
  have hk5 := hk4.trans k5
  have B5 := B4.kept k5
  clear B4 hk4 k5
  have hc5 := HC.out _ hk5
  go_wp2_with fail
  refine (HR.out _ hk5).mono ?_
  rintro e w6 ⟨rfl, k6⟩
  have hk6 := hk5.trans k6
  have B6 := B5.kept k6
  have f9 := B6.cell
  have g9 := B6.frozen
  go_wp2_with fail
  refine bodyPost_ret (v := .agg #[.int .i64 tk, .int .i64 a, .int .i64 tt, .bool tb]) ?_ rfl ⟨?_, ?_⟩
  · simp [results, Try.results28, go_sem, f9]
  · rw [HT.out]
  · repeat (first | (with_reducible exact hk6) | (with_reducible refine Kept.setCell ?_ (by simp; try omega) _) | (with_reducible refine Kept.drew ?_))
end Go.Proofs.Ytennpgdoepdboaa
