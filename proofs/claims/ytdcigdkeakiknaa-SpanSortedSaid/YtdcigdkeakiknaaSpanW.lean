/- The functions of layer 6, walked. -/
import Derived.Test.YtdcigdkeakiknaaSpanP
import Derived.Test.YtdcigdkeakiknaaApp
namespace Go.Proofs.Ytdcigdkeakiknaa
open Go.RowKit

theorem appT_runes : AppT Try.prog 22 21 1 := appT_mk (z := .int .i32 0) (bytes := 4) Try.underlying22 (by kernel_rfl) rfl (by omega) (by omega)
theorem appT_pairs : AppT Try.prog 24 23 2 := appT_mk (z := .agg #[.int .i64 0, .int .i64 0]) (bytes := 16) Try.underlying24 (by kernel_rfl) rfl (by omega) (by omega)

theorem line_any (A : Option Addr) (n c : Nat) (l : List Int) (at_ : Int) (w : World) (h : Sl w 1 A n c (l.map (Value.int .i32))) (hn : n ≤ 1000000) (K : Nat) (hK : K ≤ n)
    (hat : (at_ < 0 ∧ K = 0) ∨ at_ = K ∨ ((n : Int) < at_ ∧ n = K)) :
    Calls Try.prog 10 #[.slice A n c, .int .i64 at_] w fun e w' => e = .returned (.tuple #[.int .i64 (lcAt l K).1, .int .i64 (lcAt l K).2]) ∧ w = w' := by
  have hcap := h.cap
  have hmax := h.max
  have hlen : l.length = n := by simpa using h.len
  have HL := Lib.hid hlen
  clear hlen
  have hcut := run_cut_h appT_runes A n c K (by omega)
  rcases hat with ⟨h1, rfl⟩ | rfl | ⟨h1, rfl⟩
  · go_enter Try.func10, Try.ntmps10
    go_wp2
    refine wp_loop_rounds 1 ?_
    rw [rounds_succ]
    go_wp2
    go_ret2
    exact ⟨rfl, rfl⟩
  · go_enter Try.func10, Try.ntmps10
    go_wp2
    go_loop [6, 7, 19] (fun ln cl i => ∃ k : Nat, k ≤ K ∧ i = .int .i64 k ∧ ln = .int .i64 (lcAt l k).1 ∧ cl = .int .i64 (lcAt l k).2) (fun _ _ i => K - (intOf i).toNat)
    case atStart => exact ⟨0, Nat.zero_le _, rfl, rfl, rfl⟩
    case round =>
      obtain ⟨k, hk, rfl, rfl, rfl⟩ := hrel
      have hbd := lcAt_bd l k
      by_cases hlt : k < K
      · obtain ⟨b, o, x, rfl, hx, hc⟩ := h.one (k := k) (by omega)
        have hkl : k < l.length := by have := HL.out; omega
        rcases lineEnd_cases l hkl with ⟨g, ge⟩ | ⟨g, g2, ge⟩ | ⟨g, y, g2, g3, ge⟩ | ⟨g, g2, ge⟩ | ⟨x', g, g2, g3, ge⟩
        · obtain rfl : x = 10 := by simpa [hx] using g
          have GE := Lib.hid (lcAt_end ge)
          clear g ge hx
          go_wp2
          go_round
          case rel => exact ⟨k + 1, by omega, by go_num, by rw [GE.out], by rw [GE.out]⟩
          case measure => simp [intOf]; omega
        · obtain rfl : x = 13 := by simpa [hx] using g
          have GE := Lib.hid (lcAt_end ge)
          have hnn : n ≤ k + 1 := by have := HL.out; omega
          clear g ge hx g2
          go_wp2
          go_round
          case rel => exact ⟨k + 1, by omega, by go_num, by rw [GE.out], by rw [GE.out]⟩
          case measure => simp [intOf]; omega
        · obtain rfl : x = 13 := by simpa [hx] using g
          have GE := Lib.hid (lcAt_end ge)
          have hnn : k + 1 < n := by have := HL.out; have := (List.getElem?_eq_some_iff.1 g2).1; omega
          have hc2 := h.at1 g2
          clear g ge hx g2
          have g3b : (y != 10) = true := by simpa using g3
          clear g3
          go_wp2
          go_round
          case rel => exact ⟨k + 1, by omega, by go_num, by rw [GE.out], by rw [GE.out]⟩
          case measure => simp [intOf]; omega
        · obtain rfl : x = 13 := by simpa [hx] using g
          have GE := Lib.hid (lcAt_on ge)
          have hnn : k + 1 < n := by have := HL.out; have := (List.getElem?_eq_some_iff.1 g2).1; omega
          have hc2 := h.at1 g2
          clear g ge hx g2
          go_wp2
          go_round
          case rel => exact ⟨k + 1, by omega, by go_num, by rw [GE.out], by rw [GE.out]⟩
          case measure => simp [intOf]; omega
        · obtain rfl : x = x' := by simpa [hx] using g
          have GE := Lib.hid (lcAt_on ge)
          have g2b : (x == 10) = false := by simpa using g2
          have g3b : (x == 13) = false := by simpa using g3
          clear g ge hx g2 g3
          go_wp2
          go_round
          case rel => exact ⟨k + 1, by omega, by go_num, by rw [GE.out], by rw [GE.out]⟩
          case measure => simp [intOf]; omega
      · obtain rfl : k = K := by omega
        go_wp2
        go_ret2
        exact ⟨rfl, rfl⟩
  · go_enter Try.func10, Try.ntmps10
    go_wp2
    go_loop [6, 7, 19] (fun ln cl i => ∃ k : Nat, k ≤ n ∧ i = .int .i64 k ∧ ln = .int .i64 (lcAt l k).1 ∧ cl = .int .i64 (lcAt l k).2) (fun _ _ i => n - (intOf i).toNat)
    case atStart => exact ⟨0, Nat.zero_le _, rfl, rfl, rfl⟩
    case round =>
      obtain ⟨k, hk, rfl, rfl, rfl⟩ := hrel
      have hbd := lcAt_bd l k
      by_cases hlt : k < n
      · obtain ⟨b, o, x, rfl, hx, hc⟩ := h.one (k := k) (by omega)
        have hkl : k < l.length := by have := HL.out; omega
        rcases lineEnd_cases l hkl with ⟨g, ge⟩ | ⟨g, g2, ge⟩ | ⟨g, y, g2, g3, ge⟩ | ⟨g, g2, ge⟩ | ⟨x', g, g2, g3, ge⟩
        · obtain rfl : x = 10 := by simpa [hx] using g
          have GE := Lib.hid (lcAt_end ge)
          clear g ge hx
          go_wp2
          go_round
          case rel => exact ⟨k + 1, by omega, by go_num, by rw [GE.out], by rw [GE.out]⟩
          case measure => simp [intOf]; omega
        · obtain rfl : x = 13 := by simpa [hx] using g
          have GE := Lib.hid (lcAt_end ge)
          have hnn : n ≤ k + 1 := by have := HL.out; omega
          clear g ge hx g2
          go_wp2
          go_round
          case rel => exact ⟨k + 1, by omega, by go_num, by rw [GE.out], by rw [GE.out]⟩
          case measure => simp [intOf]; omega
        · obtain rfl : x = 13 := by simpa [hx] using g
          have GE := Lib.hid (lcAt_end ge)
          have hnn : k + 1 < n := by have := HL.out; have := (List.getElem?_eq_some_iff.1 g2).1; omega
          have hc2 := h.at1 g2
          clear g ge hx g2
          have g3b : (y != 10) = true := by simpa using g3
          clear g3
          go_wp2
          go_round
          case rel => exact ⟨k + 1, by omega, by go_num, by rw [GE.out], by rw [GE.out]⟩
          case measure => simp [intOf]; omega
        · obtain rfl : x = 13 := by simpa [hx] using g
          have GE := Lib.hid (lcAt_on ge)
          have hnn : k + 1 < n := by have := HL.out; have := (List.getElem?_eq_some_iff.1 g2).1; omega
          have hc2 := h.at1 g2
          clear g ge hx g2
          go_wp2
          go_round
          case rel => exact ⟨k + 1, by omega, by go_num, by rw [GE.out], by rw [GE.out]⟩
          case measure => simp [intOf]; omega
        · obtain rfl : x = x' := by simpa [hx] using g
          have GE := Lib.hid (lcAt_on ge)
          have g2b : (x == 10) = false := by simpa using g2
          have g3b : (x == 13) = false := by simpa using g3
          clear g ge hx g2 g3
          go_wp2
          go_round
          case rel => exact ⟨k + 1, by omega, by go_num, by rw [GE.out], by rw [GE.out]⟩
          case measure => simp [intOf]; omega
      · obtain rfl : k = n := by omega
        go_wp2
        go_ret2
        exact ⟨rfl, rfl⟩

end Go.Proofs.Ytdcigdkeakiknaa
