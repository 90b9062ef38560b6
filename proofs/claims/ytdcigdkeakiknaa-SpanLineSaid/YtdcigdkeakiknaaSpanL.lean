/- The law SpanLine, walked. -/
import Derived.Test.YtdcigdkeakiknaaSpanW2
import Derived.Test.YtdcigdkeakiknaaSpanA
namespace Go.Proofs.Ytdcigdkeakiknaa
open Go.RowKit

theorem clamp_cases (m : Nat) (x : Int) : ∃ K : Nat, K ≤ m ∧ ((x < 0 ∧ K = 0) ∨ x = K ∨ ((m : Int) < x ∧ m = K)) := by
  by_cases h1 : x < 0
  · exact ⟨0, by omega, .inl ⟨h1, rfl⟩⟩
  by_cases h2 : (m : Int) < x
  · exact ⟨m, by omega, .inr (.inr ⟨h2, rfl⟩)⟩
  · exact ⟨x.toNat, by omega, .inr (.inl (by omega))⟩

set_option maxHeartbeats 1000000 in
theorem spanLine_any (A : Option Addr) (n c : Nat) (l : List Int) (x : Int) (w : World) (h : Sl w 1 A n c (l.map (Value.int .i32))) :
    Calls Try.prog 3 #[.slice A n c, .int .i64 x] w fun e w' => e = .returned (.bool true) ∧ Kept w w' := by
  have hcap := h.cap
  have hmax := h.max
  rcases (show 80 < n ∨ n ≤ 80 by omega) with hn | hn
  · have hcut := run_cut_h appT_runes A n c 80 (by omega)
    have HS : Sl w 1 A 80 c ((l.take 80).map (Value.int .i32)) := h.to1 (by omega)
    obtain ⟨K, hK, hat⟩ := clamp_cases 80 x
    have hatc := hat
    rcases hatc with ⟨h1, rfl⟩ | rfl | ⟨h1, rfl⟩
    · clear hat
      go_enter Try.func3, Try.ntmps3
      go_wp2_with fail
      refine (lines_any _ (80) _ (l.take 80) _ HS (by omega)).mono ?_
      rintro e w1 ⟨A', c', rfl, hs1, hk1⟩
      obtain ⟨b', o', k', rfl, hk', hcells, hb'⟩ := hs1.elemb (l := List.range (80 + 1)) (s := 2) (fun _ => rfl) (by omega) (k := 0) (by omega)
      obtain rfl : 0 = k' := by
        have := List.getElem?_eq_some_iff.1 hk'
        simpa using this.2
      have p0 : w1.cell? ⟨b', o' + 0 * 2, none⟩ = some (.int .i64 (lcAt (l.take 80) 0).1) := hcells 0 _ rfl
      have p1 := hcells 1 _ rfl
      simp only [Nat.zero_mul, Nat.add_zero] at p0 p1
      clear hcells hk'
      go_wp2_with fail
      refine (line_any _ (80) _ (l.take 80) _ _ (HS.kept (hk1.alloc _)) (by omega) 0 (by omega) (.inl ⟨h1, rfl⟩)).mono ?_
      rintro e w2 ⟨rfl, rfl⟩
      go_wp2_with fail
      refine (awake_any _).mono ?_
      rintro e w3 ⟨rfl, hk3⟩
      go_wp2
      go_ret
      exact ⟨rfl, (hk1.alloc _).trans hk3⟩
    · clear hat
      go_enter Try.func3, Try.ntmps3
      go_wp2_with fail
      refine (lines_any _ (80) _ (l.take 80) _ HS (by omega)).mono ?_
      rintro e w1 ⟨A', c', rfl, hs1, hk1⟩
      obtain ⟨b', o', k', rfl, hk', hcells, hb'⟩ := hs1.elemb (l := List.range (80 + 1)) (s := 2) (fun _ => rfl) (by omega) (k := K) (by omega)
      obtain rfl : K = k' := by
        have := List.getElem?_eq_some_iff.1 hk'
        simpa using this.2
      have p0 : w1.cell? ⟨b', o' + K * 2, none⟩ = some (.int .i64 (lcAt (l.take 80) K).1) := hcells 0 _ rfl
      have p1 := hcells 1 _ rfl
      clear hcells hk'
      go_wp2_with fail
      refine (line_any _ (80) _ (l.take 80) _ _ (HS.kept (hk1.alloc _)) (by omega) K (by omega) (.inr (.inl rfl))).mono ?_
      rintro e w2 ⟨rfl, rfl⟩
      go_wp2_with fail
      refine (awake_any _).mono ?_
      rintro e w3 ⟨rfl, hk3⟩
      go_wp2
      go_ret
      exact ⟨rfl, (hk1.alloc _).trans hk3⟩
    · clear hat
      go_enter Try.func3, Try.ntmps3
      go_wp2_with fail
      refine (lines_any _ (80) _ (l.take 80) _ HS (by omega)).mono ?_
      rintro e w1 ⟨A', c', rfl, hs1, hk1⟩
      obtain ⟨b', o', k', rfl, hk', hcells, hb'⟩ := hs1.elemb (l := List.range (80 + 1)) (s := 2) (fun _ => rfl) (by omega) (k := 80) (by omega)
      obtain rfl : 80 = k' := by
        have := List.getElem?_eq_some_iff.1 hk'
        simpa using this.2
      have p0 : w1.cell? ⟨b', o' + 80 * 2, none⟩ = some (.int .i64 (lcAt (l.take 80) 80).1) := hcells 0 _ rfl
      have p1 := hcells 1 _ rfl
      clear hcells hk'
      go_wp2_with fail
      refine (line_any _ (80) _ (l.take 80) _ _ (HS.kept (hk1.alloc _)) (by omega) 80 (by omega) (.inr (.inr ⟨h1, rfl⟩))).mono ?_
      rintro e w2 ⟨rfl, rfl⟩
      go_wp2_with fail
      refine (awake_any _).mono ?_
      rintro e w3 ⟨rfl, hk3⟩
      go_wp2
      go_ret
      exact ⟨rfl, (hk1.alloc _).trans hk3⟩
  · have HS := h
    obtain ⟨K, hK, hat⟩ := clamp_cases n x
    have hatc := hat
    rcases hatc with ⟨h1, rfl⟩ | rfl | ⟨h1, rfl⟩
    · clear hat
      go_enter Try.func3, Try.ntmps3
      go_wp2_with fail
      refine (lines_any _ (n) _ (l) _ HS (by omega)).mono ?_
      rintro e w1 ⟨A', c', rfl, hs1, hk1⟩
      obtain ⟨b', o', k', rfl, hk', hcells, hb'⟩ := hs1.elemb (l := List.range (n + 1)) (s := 2) (fun _ => rfl) (by omega) (k := 0) (by omega)
      obtain rfl : 0 = k' := by
        have := List.getElem?_eq_some_iff.1 hk'
        simpa using this.2
      have p0 : w1.cell? ⟨b', o' + 0 * 2, none⟩ = some (.int .i64 (lcAt (l) 0).1) := hcells 0 _ rfl
      have p1 := hcells 1 _ rfl
      simp only [Nat.zero_mul, Nat.add_zero] at p0 p1
      clear hcells hk'
      go_wp2_with fail
      refine (line_any _ (n) _ (l) _ _ (HS.kept (hk1.alloc _)) (by omega) 0 (by omega) (.inl ⟨h1, rfl⟩)).mono ?_
      rintro e w2 ⟨rfl, rfl⟩
      go_wp2_with fail
      refine (awake_any _).mono ?_
      rintro e w3 ⟨rfl, hk3⟩
      go_wp2
      go_ret
      exact ⟨rfl, (hk1.alloc _).trans hk3⟩
    · clear hat
      go_enter Try.func3, Try.ntmps3
      go_wp2_with fail
      refine (lines_any _ (n) _ (l) _ HS (by omega)).mono ?_
      rintro e w1 ⟨A', c', rfl, hs1, hk1⟩
      obtain ⟨b', o', k', rfl, hk', hcells, hb'⟩ := hs1.elemb (l := List.range (n + 1)) (s := 2) (fun _ => rfl) (by omega) (k := K) (by omega)
      obtain rfl : K = k' := by
        have := List.getElem?_eq_some_iff.1 hk'
        simpa using this.2
      have p0 : w1.cell? ⟨b', o' + K * 2, none⟩ = some (.int .i64 (lcAt (l) K).1) := hcells 0 _ rfl
      have p1 := hcells 1 _ rfl
      clear hcells hk'
      go_wp2_with fail
      refine (line_any _ (n) _ (l) _ _ (HS.kept (hk1.alloc _)) (by omega) K (by omega) (.inr (.inl rfl))).mono ?_
      rintro e w2 ⟨rfl, rfl⟩
      go_wp2_with fail
      refine (awake_any _).mono ?_
      rintro e w3 ⟨rfl, hk3⟩
      go_wp2
      go_ret
      exact ⟨rfl, (hk1.alloc _).trans hk3⟩
    · clear hat
      go_enter Try.func3, Try.ntmps3
      go_wp2_with fail
      refine (lines_any _ (n) _ (l) _ HS (by omega)).mono ?_
      rintro e w1 ⟨A', c', rfl, hs1, hk1⟩
      obtain ⟨b', o', k', rfl, hk', hcells, hb'⟩ := hs1.elemb (l := List.range (n + 1)) (s := 2) (fun _ => rfl) (by omega) (k := n) (by omega)
      obtain rfl : n = k' := by
        have := List.getElem?_eq_some_iff.1 hk'
        simpa using this.2
      have p0 : w1.cell? ⟨b', o' + n * 2, none⟩ = some (.int .i64 (lcAt (l) n).1) := hcells 0 _ rfl
      have p1 := hcells 1 _ rfl
      clear hcells hk'
      go_wp2_with fail
      refine (line_any _ (n) _ (l) _ _ (HS.kept (hk1.alloc _)) (by omega) n (by omega) (.inr (.inr ⟨h1, rfl⟩))).mono ?_
      rintro e w2 ⟨rfl, rfl⟩
      go_wp2_with fail
      refine (awake_any _).mono ?_
      rintro e w3 ⟨rfl, hk3⟩
      go_wp2
      go_ret
      exact ⟨rfl, (hk1.alloc _).trans hk3⟩
end Go.Proofs.Ytdcigdkeakiknaa
