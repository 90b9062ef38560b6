/- Shift, Replace and the example of layer 6, walked. -/
import Derived.Test.YtdcigdkeakiknaaSpanF
import Derived.Test.YtdcigdkeakiknaaSpanC
import Derived.Test.YtdcigdkeakiknaaSpanW
namespace Go.Proofs.Ytdcigdkeakiknaa
open Go.RowKit

theorem shift_any (x f t n : Int) (w : World) (h1 : -9223372036854775808 ≤ f) (h2 : f ≤ 9223372036854775807) (h3 : -9223372036854775808 ≤ t) (h4 : t ≤ 9223372036854775807) :
    Calls Try.prog 18 #[.int .i64 x, .agg #[.int .i64 f, .int .i64 t], .int .i64 n] w fun e w' => e = .returned (.int .i64 (shiftF x f t n)) ∧ Kept w w' := by
  cases hw : wrongF x f t n
  · have hl : 0 ≤ lenF f t ∧ lenF f t ≤ 2147483647 := by unfold lenF; (repeat' split) <;> omega
    obtain ⟨hl1, hl2⟩ := hl
    have HW := Lib.hid hw
    simp only [wrongF, Bool.or_eq_false_iff, decide_eq_false_iff_not] at hw
    obtain ⟨⟨⟨⟨⟨⟨g1, g2⟩, g3⟩, g4⟩, g5⟩, g6⟩, g7⟩ := hw
    go_enter Try.func18, Try.ntmps18
    go_wp2_with (go_at_call 13; refine (len_any _ _ _ h1 h2 h3 h4).mono ?_; rintro e w' ⟨rfl, hk⟩)
    · go_ret
      refine ⟨ret_int ?_, ((Kept.refl _).alloc _).trans hk⟩
      have := HW.out
      unfold shiftF
      rw [this, if_neg (by simp), if_pos (by omega)]
    · go_ret
      refine ⟨ret_int ?_, ((Kept.refl _).alloc _)⟩
      have := HW.out
      unfold shiftF
      rw [this, if_neg (by simp), if_neg (by omega)]
  · have HW := Lib.hid hw
    clear hw
    go_enter Try.func18, Try.ntmps18
    go_wp2_with (go_at_call 13; refine (len_any _ _ _ h1 h2 h3 h4).mono ?_; rintro e w' ⟨rfl, hk⟩)
    all_goals go_ret
    all_goals first
      | (exfalso; have := HW.out; simp [wrongF] at this; omega)
      | exact ⟨ret_int (by have := HW.out; unfold shiftF; rw [this, if_pos rfl]), by repeat (first | exact Kept.refl _ | refine Kept.alloc ?_ _)⟩
/-- May a span of a row of n be replaced? -/
def badF (f t n : Int) : Bool := decide (f < 0) || decide (t < f) || decide (n < t)
theorem replace_no (A : Option Addr) (n c : Nat) (f t : Int) (x : Value) (w : World) (hb : badF f t n = true) :
    Calls Try.prog 17 #[.slice A n c, .agg #[.int .i64 f, .int .i64 t], x] w fun e w' => e = .returned (.tuple #[.slice none 0 0, .int .i64 3]) ∧ Kept w w' := by
  have HB := Lib.hid hb
  clear hb
  go_enter Try.func17, Try.ntmps17
  go_wp2_with fail
  all_goals first
    | (exfalso; have := HB.out; simp [badF] at this; omega)
    | (go_ret2; exact ⟨rfl, by repeat (first | exact Kept.refl _ | refine Kept.alloc ?_ _)⟩)
theorem parts_replace {A : Option Addr} {n c : Nat} {l : List Int} {f t : Nat} {A' : Option Addr} {n' c' : Nat} {l' : List Int} {w W : World} (h : Sl w 1 A n c (l.map (Value.int .u8))) (h' : Sl w 1 A' n' c' (l'.map (Value.int .u8)))
    (hft : f ≤ t) (ht : t ≤ n) (hk : Kept w W) :
    PartsBytes W [((A, f, c), (l.take f).map (Value.int .u8)), ((A', n', c'), l'.map (Value.int .u8)), ((cutA A c t 1, n - t, c - t), (l.drop t).map (Value.int .u8))] := by
  intro p hp
  simp only [List.mem_cons, List.not_mem_nil, or_false] at hp
  rcases hp with rfl | rfl | rfl
  · exact ⟨(h.to1 (m := f) (by omega)).kept hk, ints_one _ _⟩
  · exact ⟨h'.kept hk, ints_one _ _⟩
  · exact ⟨(h.from1 ht).kept hk, ints_one _ _⟩
theorem replace_ok (A : Option Addr) (n c : Nat) (l : List Int) (f t : Nat) (A' : Option Addr) (n' c' : Nat) (l' : List Int) (w : World) (h : Sl w 1 A n c (l.map (Value.int .u8))) (h' : Sl w 1 A' n' c' (l'.map (Value.int .u8)))
    (hft : f ≤ t) (ht : t ≤ n) (hn : n ≤ 1000000) (hn' : n' ≤ 1000000) :
    Calls Try.prog 17 #[.slice A n c, .agg #[.int .i64 f, .int .i64 t], .slice A' n' c'] w fun e w' => ∃ A2 n2 c2, e = .returned (.tuple #[.slice A2 n2 c2, .int .i64 0]) ∧
      Sl w' 1 A2 n2 c2 ((l.take f ++ (l' ++ l.drop t)).map (Value.int .u8)) ∧ n2 = f + (n' + (n - t)) ∧ Kept w w' := by
  have hcap := h.cap
  have hmax := h.max
  have hcut1 := run_cut_h appT_bytes A n c f (by omega)
  have hcut2 := run_cut_l appT_bytes A n c t (by omega)
  go_enter Try.func17, Try.ntmps17
  go_wp2_with fail
  go_region_with (go_at_call 22; refine (concatBytes_any _ _ _ [((A, f, c), (l.take f).map (Value.int .u8)), ((A', n', c'), l'.map (Value.int .u8)), ((cutA A c t 1, n - t, c - t), (l.drop t).map (Value.int .u8))] _ ?_ ?_ ?_).mono ?_; (exact (Sl.litg (by simp) rfl (by omega)).drew); (exact parts_replace h h' hft ht (((Kept.refl _).alloc _).alloc _).drew); (simp [plen]; omega); (rintro e w' ⟨A2, c2, rfl, hs2, hk2⟩))
  all_goals try go_wp2
  all_goals go_ret2
  all_goals exact ⟨_, _, _, rfl, by simpa using hs2, by simp [plen], ((((Kept.refl _).alloc _).alloc _).drew).trans hk2⟩
end Go.Proofs.Ytdcigdkeakiknaa
