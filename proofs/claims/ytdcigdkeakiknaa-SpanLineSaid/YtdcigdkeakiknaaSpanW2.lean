/- The reference's lines, walked. -/
import Derived.Test.YtdcigdkeakiknaaSpanW
namespace Go.Proofs.Ytdcigdkeakiknaa
open Go.RowKit

def linesC (l : List Int) (m : Nat) : List Value := (List.range m).flatMap fun k => [.int .i64 (lcAt l k).1, .int .i64 (lcAt l k).2]
theorem linesC_succ (l : List Int) (m : Nat) : linesC l (m + 1) = linesC l m ++ [.int .i64 (lcAt l m).1, .int .i64 (lcAt l m).2] := by
  unfold linesC
  rw [List.range_succ, List.flatMap_append, List.flatMap_cons, List.flatMap_nil, List.append_nil]
set_option maxHeartbeats 1000000 in
theorem lines_any (A : Option Addr) (n c : Nat) (l : List Int) (w : World) (h : Sl w 1 A n c (l.map (Value.int .i32))) (hn : n ≤ 1000000) :
    Calls Try.prog 9 #[.slice A n c] w fun e w' => ∃ A' c', e = .returned (.slice A' (n + 1) c') ∧ Sl w' 2 A' (n + 1) c' (linesC l (n + 1)) ∧ Kept w w' := by
  have hcap := h.cap
  have hmax := h.max
  have HL := Lib.hid h.llen1
  go_enter Try.func9, Try.ntmps9
  go_wp2
  go_loopw [3, 11] (fun o i wr => ∃ k : Nat, k ≤ n ∧ i = .int .i64 k ∧ wr.ownsRow w.heap.size 23 2 o (k + 1) (linesC l (k + 1)) ∧ Kept w wr) (fun _ i _ => n - (intOf i).toNat)
  case atStart => exact ⟨0, Nat.zero_le _, rfl, own_lit rfl (by omega) (Nat.le_refl _), (Kept.refl _).alloc _⟩
  case round =>
    obtain ⟨k, hk, rfl, hown, hkept⟩ := hrel
    have hbd := lcAt_bd l k
    obtain ⟨A', c', rfl, hsl⟩ := Sl.of_own hown
    by_cases hlt : k < n
    · obtain ⟨b, o, x, rfl, hx, hc, hb⟩ := (h.kept hkept).oneb hlt
      obtain ⟨b', o', k', rfl, hk', hcells, hb'⟩ := hsl.elemb (l := List.range (k + 1)) (s := 2) (fun _ => rfl) (by omega) (Nat.lt_succ_self k)
      obtain rfl : k = k' := by simpa using hk'
      have p0 : wr.cell? ⟨b', o' + k * 2, none⟩ = some (.int .i64 (lcAt l k).1) := hcells 0 _ rfl
      have p1 := hcells 1 _ rfl
      clear hcells hk'
      have hkl : k < l.length := by have := HL.out; omega
      rcases lineEnd_cases l hkl with ⟨g, ge⟩ | ⟨g, g2, ge⟩ | ⟨g, y, g2, g3, ge⟩ | ⟨g, g2, ge⟩ | ⟨x', g, g2, g3, ge⟩
      · obtain rfl : x = 10 := by simpa [hx] using g
        have GE := Lib.hid (linesC_succ l (k + 1))
        rw [lcAt_end ge] at GE
        clear ge hx g
        go_wp2_with (at_builtin; refine wpList_push w (by rfl) _ _ (by rfl) appT_pairs (by rfl) (hown.alloc _) (hkept.alloc _) (by rfl) ?_ ?_; (exact ⟨by simp, rfl, rfl, by omega⟩); intro v' w' hown' hk' _ _)
        go_roundw
        case rel => exact ⟨k + 1, by omega, by go_num, by rw [GE.out]; exact hown', hk'⟩
        case measure => simp [intOf]; omega
      · obtain rfl : x = 13 := by simpa [hx] using g
        have hnn : n ≤ k + 1 := by have := HL.out; omega
        have GE := Lib.hid (linesC_succ l (k + 1))
        rw [lcAt_end ge] at GE
        clear ge hx g g2
        go_wp2_with (at_builtin; refine wpList_push w (by rfl) _ _ (by rfl) appT_pairs (by rfl) (hown.alloc _) (hkept.alloc _) (by rfl) ?_ ?_; (exact ⟨by simp, rfl, rfl, by omega⟩); intro v' w' hown' hk' _ _)
        go_roundw
        case rel => exact ⟨k + 1, by omega, by go_num, by rw [GE.out]; exact hown', hk'⟩
        case measure => simp [intOf]; omega
      · obtain rfl : x = 13 := by simpa [hx] using g
        have hnn : k + 1 < n := by have := HL.out; have := (List.getElem?_eq_some_iff.1 g2).1; omega
        have hc2 := (h.kept hkept).at1 g2
        have g3b : (y != 10) = true := by simpa using g3
        have GE := Lib.hid (linesC_succ l (k + 1))
        rw [lcAt_end ge] at GE
        clear ge hx g g2 g3
        go_wp2_with (at_builtin; refine wpList_push w (by rfl) _ _ (by rfl) appT_pairs (by rfl) (hown.alloc _) (hkept.alloc _) (by rfl) ?_ ?_; (exact ⟨by simp, rfl, rfl, by omega⟩); intro v' w' hown' hk' _ _)
        go_roundw
        case rel => exact ⟨k + 1, by omega, by go_num, by rw [GE.out]; exact hown', hk'⟩
        case measure => simp [intOf]; omega
      · obtain rfl : x = 13 := by simpa [hx] using g
        have hnn : k + 1 < n := by have := HL.out; have := (List.getElem?_eq_some_iff.1 g2).1; omega
        have hc2 := (h.kept hkept).at1 g2
        have GE := Lib.hid (linesC_succ l (k + 1))
        rw [lcAt_on ge] at GE
        clear ge hx g g2
        go_wp2_with (at_builtin; refine wpList_push w (by rfl) _ _ (by rfl) appT_pairs (by rfl) (hown.alloc _) (hkept.alloc _) (by rfl) ?_ ?_; (exact ⟨by simp, rfl, rfl, by omega⟩); intro v' w' hown' hk' _ _)
        go_roundw
        case rel => exact ⟨k + 1, by omega, by go_num, by rw [GE.out]; exact hown', hk'⟩
        case measure => simp [intOf]; omega
      · obtain rfl : x = x' := by simpa [hx] using g
        have g2b : (x == 10) = false := by simpa using g2
        have g3b : (x == 13) = false := by simpa using g3
        have GE := Lib.hid (linesC_succ l (k + 1))
        rw [lcAt_on ge] at GE
        clear ge hx g g2 g3
        go_wp2_with (at_builtin; refine wpList_push w (by rfl) _ _ (by rfl) appT_pairs (by rfl) (hown.alloc _) (hkept.alloc _) (by rfl) ?_ ?_; (exact ⟨by simp, rfl, rfl, by omega⟩); intro v' w' hown' hk' _ _)
        go_roundw
        case rel => exact ⟨k + 1, by omega, by go_num, by rw [GE.out]; exact hown', hk'⟩
        case measure => simp [intOf]; omega
    · obtain rfl : k = n := by omega
      go_wp2
      go_ret
      exact ⟨_, _, rfl, hsl, hkept⟩
end Go.Proofs.Ytdcigdkeakiknaa
