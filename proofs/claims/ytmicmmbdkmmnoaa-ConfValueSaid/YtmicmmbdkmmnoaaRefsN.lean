/- Layer 7 at a &: Next: walked. -/
import Derived.Test.YtmicmmbdkmmnoaaRefsE
namespace Go.Proofs.Ytmicmmbdkmmnoaa
open Go.RowKit
attribute [local go_sem ↓] Go.wp_at_zero Go.wp_at_succ

theorem next_any (A : Option Addr) (n c : Nat) (l : List Int) (a : Nat) (w : World) (h : Sl w 1 A n c (l.map (Value.int .i32))) (hn : n ≤ 1000000) (ha : a < n) (h38 : l[a]? = some 38) :
    Calls Try.prog 63 #[.slice A n c, .int .i64 a] w fun e w' => e = .returned (.tuple #[.agg (tokC l a), .bool true]) ∧ Kept w w' := by
  have hcap := h.cap
  have hmax := h.max
  have d0 : decide ((a : Int) < 0) = false := by simp
  have d1 : decide (n ≤ a) = false := by simp; omega
  have d2 : decide ((n : Int) ≤ a) = false := by simp; omega
  obtain ⟨b, o, x, rfl, hx, hc, hb⟩ := h.oneb (k := a) ha
  obtain rfl : x = 38 := by rw [h38] at hx; injection hx with hx; exact hx.symm
  have l0 : (0 : Int) ≤ a := by omega
  have l1 : (a : Int) < n := by omega
  clear hx
  obtain ⟨tk, tt, tb, hT⟩ : ∃ tk tt tb, tokC l a = #[.int .i64 tk, .int .i64 a, .int .i64 tt, .bool tb] := ⟨_, _, _, rfl⟩
  have href : ∀ w', Kept w w' → Calls Try.prog 71 #[.slice (some ⟨b, o, none⟩) n c, .int .i64 a] w' fun e w'' => e = .returned (.agg #[.int .i64 tk, .int .i64 a, .int .i64 tt, .bool tb]) ∧ Kept w' w'' := by
    intro w' hk'
    rw [← hT]
    exact ref_any _ n c l a w' (h.kept hk') hn ha h38
  have HR := Lib.hid href
  have HT := Lib.hid hT
  clear href hT
  have hk0 : Kept w (w.alloc (.cells #[.int .i64 0, .int .i64 0, .int .i64 0, .bool false] 119)) := (Kept.refl _).alloc _
  have B0 := Blk.new w #[.int .i64 0, .int .i64 0, .int .i64 0, .bool false] 119
  go_enter Try.func63, Try.ntmps63
  go_wp2_with fail
  generalize w.alloc (.cells #[.int .i64 0, .int .i64 0, .int .i64 0, .bool false] 119) = w1 at hk0 B0 ⊢
  refine (HR.out _ hk0).mono ?_
  rintro e w2 ⟨rfl, k2⟩
  have hk2 := hk0.trans k2
  have B2 := B0.kept k2
  have f9 := B2.cell
  have g9 := B2.frozen
  clear k2 B0 hk0
  go_wp2_with fail
  refine bodyPost_ret (v := .tuple #[.agg #[.int .i64 tk, .int .i64 a, .int .i64 tt, .bool tb], .bool true]) ?_ rfl ⟨?_, ?_⟩
  · simp [results, Try.results63, go_sem, f9]
  · rw [HT.out]
  · repeat (first | (with_reducible exact hk2) | (with_reducible refine Kept.setCell ?_ (by simp; try omega) _))
end Go.Proofs.Ytmicmmbdkmmnoaa
