/- A value in the quotes that are asked: what both compute; small functions of it, walked. -/
import Derived.Test.YtmicmmbdkmmnoaaConAb
import Derived.Test.YtmicmmbdkmmnoaaConAd
import Derived.Test.YtmicmmbdkmmnoaaRefN
namespace Go.Proofs.Ytmicmmbdkmmnoaa
open Go.RowKit
attribute [local go_sem ↓] Go.wp_at_zero Go.wp_at_succ

/-- The quote that is asked; that itself, if none is. -/
def askF (q x : Int) : Int := if q = 1 then 34 else if q = 2 then 39 else x
/-- Runes in quotes: the quote, what stands within. -/
def quoted (l : List Int) (x : Int) (M : List Int) : Prop := l = x :: (M ++ [x]) ∧ (x = 34 ∨ x = 39)
/-- Does a value stay as it is? -/
def stays (q : Int) (l : List Int) : Prop := l.length < 2 ∨ l[0]? ≠ l[l.length - 1]? ∨ (l[0]? ≠ some 34 ∧ l[0]? ≠ some 39) ∨ (q = 0 ∨ (q = 1 ∧ l[0]? = some 34) ∨ (q = 2 ∧ l[0]? = some 39))
def signOf (q : Int) : ByteArray := if q = 34 then ⟨#[38, 113, 117, 111, 116, 59]⟩ else ⟨#[38, 97, 112, 111, 115, 59]⟩
def signI (q : Int) : List Int := if q = 34 then [38, 113, 117, 111, 116, 59] else [38, 97, 112, 111, 115, 59]
def newQ (q : Int) : Int := if q = 1 then 34 else 39
theorem sign_in_signs {q : Int} (h : q = 34 ∨ q = 39) : (signI q, q) ∈ signs := by
  rcases h with rfl | rfl
  · simp [signI, signs]
  · simp [signI, signs]
set_option maxHeartbeats 1000000 in
theorem asked_any (c : Cf) (x : Int) (w : World) : Calls Try.prog 36 #[c.val, .int .i32 x] w fun e w' => e = .returned (.int .i32 (askF c.q x)) ∧ Kept w w' := by
  obtain ⟨ci, cd, cq, ce, cl, ct, cr⟩ := c
  unfold Cf.val
  dsimp only
  have HQ : Hid (askF cq x = if cq = 1 then 34 else if cq = 2 then 39 else x) := rfl
  by_cases h1 : cq = 1
  · have HV : Hid (askF cq x = 34) := by unfold Hid; rw [HQ.out, if_pos h1]
    subst h1
    go_enter Try.func36, Try.ntmps36
    go_wp2_with fail
    go_ret
    exact ⟨ret_int HV.out.symm, (Kept.refl w).alloc _⟩
  · by_cases h2 : cq = 2
    · have HV : Hid (askF cq x = 39) := by unfold Hid; rw [HQ.out, if_neg h1, if_pos h2]
      subst h2
      go_enter Try.func36, Try.ntmps36
      go_wp2_with fail
      go_ret
      exact ⟨ret_int HV.out.symm, (Kept.refl w).alloc _⟩
    · have HV : Hid (askF cq x = x) := by unfold Hid; rw [HQ.out, if_neg h1, if_neg h2]
      go_enter Try.func36, Try.ntmps36
      go_wp2_with fail
      go_ret
      exact ⟨ret_int HV.out.symm, (Kept.refl w).alloc _⟩
theorem cloneR_any (A : Option Addr) (n c : Nat) (l : List Int) (w : World) (h : Sl w 1 A n c (l.map (Value.int .i32))) (hn : n ≤ 1000000) :
    Calls Try.prog 37 #[.slice A n c] w fun e w' => ∃ VA VC, e = .returned (.slice VA n VC) ∧ Sl w' 1 VA n VC (l.map (Value.int .i32)) ∧ Kept w w' := by
  have hnil := fun w' => Lib.run_eql_slice_nil (P := Try.prog) w' 36 21 A n c 0 0 Try.underlying36
  cases A with
  | none =>
    have h0 : n = 0 := by
      rcases Nat.eq_zero_or_pos n with h0 | h0
      · exact h0
      · obtain ⟨b, o, e, _⟩ := h.at_ h0
        cases e
    subst h0
    have hl : l = [] := List.eq_nil_of_length_eq_zero h.llen1
    subst hl
    go_enter Try.func37, Try.ntmps37
    go_wp2_with fail
    go_ret
    exact ⟨none, 0, rfl, Sl.nil_, Kept.refl _⟩
  | some a =>
    have hown := own_lit (w := w) (base := w.heap.size) (e := 21) (size := 1) (n := 0) (cs := []) (by rfl) (by omega) (Nat.le_refl _)
    have hk0 := (Kept.refl w).alloc (.cells #[] 21)
    go_enter Try.func37, Try.ntmps37
    go_wp2_with (at_builtin; refine wpList_appk w (by rfl) _ _ (by rfl) appT_run (by rfl) hown hk0 (by rfl) (h.kept hk0) ?_ ?_; (exact ⟨ints_one _ _, by omega⟩); (intro v' w' hown' hk' hgr hob; obtain ⟨VA', VC', rfl, hVs⟩ := Sl.of_own hown'))
    go_ret
    exact ⟨VA', VC', rfl, by rw [Nat.zero_add] at hVs; exact hVs, hk'⟩
end Go.Proofs.Ytmicmmbdkmmnoaa
