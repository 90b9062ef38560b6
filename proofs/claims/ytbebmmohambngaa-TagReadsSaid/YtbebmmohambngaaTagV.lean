/- tag.Parts, walked. -/
import Derived.Test.YtbebmmohambngaaTagW
namespace Go.Proofs.Ytbebmmohambngaa
open Go.RowKit

theorem appT_prt : AppT Try.prog 24 30 3 := appT_mk (z := .agg #[.int .i64 0, .int .i64 0, .int .i64 0]) (bytes := 24) Try.underlying24 (by kernel_rfl) rfl (by omega) (by omega)

/-- The parts of runes of a row. -/
def partsL (l : List Int) (f t : Int) : List Prt := if f < 0 ∨ t < f ∨ (l.length : Int) < t then [] else partsX f ((l.take t.toNat).drop f.toNat) true

theorem parts_any (A : Option Addr) (n c : Nat) (l : List Int) (f t : Int) (w : World) (h : Sl w 1 A n c (l.map (Value.int .i32))) (hn : n ≤ 1000000) :
    Calls Try.prog 7 #[.slice A n c, .int .i64 f, .int .i64 t] w fun e w' => ∃ A' c', e = .returned (.slice A' (partsL l f t).length c') ∧ Sl w' 3 A' (partsL l f t).length c' ((partsL l f t).flatMap prtC) ∧ Kept w w' ∧
      w'.ownsRow w.heap.size 30 3 (.slice A' (partsL l f t).length c') (partsL l f t).length ((partsL l f t).flatMap prtC) := by
  have hcap := h.cap
  have hmax := h.max
  have hl := h.llen1
  by_cases hbad : f < 0 ∨ t < f ∨ (l.length : Int) < t
  · have HV : Hid (partsL l f t = []) := by unfold Hid partsL; rw [if_pos hbad]
    have HB := Lib.hid (show f < 0 ∨ t < f ∨ (n : Int) < t by rw [← hl]; exact hbad)
    clear hbad hl
    go_enter Try.func7, Try.ntmps7
    go_wp2_with fail
    all_goals first
      | (exfalso; have := HB.out; omega)
      | (go_ret; exact ⟨none, 0, by rw [HV.out]; rfl, by rw [HV.out]; exact Sl.nil_, Kept.refl _, by rw [HV.out]; exact World.ownsRow_nil _ _ _ _⟩)
  · have hv : partsL l f t = partsX f ((l.take t.toNat).drop f.toNat) true := by unfold partsL; rw [if_neg hbad]
    rw [hl] at hbad
    obtain ⟨F, rfl⟩ := Int.eq_ofNat_of_zero_le (show 0 ≤ f by omega)
    obtain ⟨T, rfl⟩ := Int.eq_ofNat_of_zero_le (show 0 ≤ t by omega)
    rw [Int.toNat_natCast, Int.toNat_natCast] at hv
    have hFT : F ≤ T := by omega
    have hTn : T ≤ n := by omega
    have HV := Lib.hid hv
    have HL := Lib.hid hl
    clear hv hl hbad
    have d1 : decide ((T : Int) < F) = false := by simp; omega
    have d2 : decide ((n : Int) < T) = false := by simp; omega
    have d3 : decide (T < F) = false := by simp; omega
    have d4 : decide (n < T) = false := by simp; omega
    go_enter Try.func7, Try.ntmps7
    go_wp2_with fail
    go_loopw [7, 8] (fun o at_ wr => ∃ (k : Nat) (P : List Prt), F ≤ k ∧ k ≤ T ∧ at_ = .int .i64 k ∧ wr.ownsRow w.heap.size 30 3 o P.length (P.flatMap prtC) ∧ Kept w wr ∧ P.length ≤ k ∧
      Hid (partsX F ((l.take T).drop F) true = P ++ partsX k ((l.take T).drop k) (decide (k = F)))) (fun _ i _ => T - (intOf i).toNat)
    case atStart => exact ⟨F, [], Nat.le_refl _, hFT, rfl, World.ownsRow_nil _ _ _ _, Kept.refl _, Nat.zero_le _, by simp [Hid]⟩
    case round =>
      obtain ⟨k, P, hFk, hkT, rfl, hown, hkept, hPk, hinv⟩ := hrel
      by_cases hlt : k < T
      · have hsl := h.cut1 (i := k) (m := T) (by omega) hTn
        have hcut := run_cut_lh appT_runes A n c k T (by omega) (by omega)
        rw [show (l.drop k).take (T - k) = (l.take T).drop k by rw [List.drop_take]] at hsl
        obtain ⟨A2, hA2⟩ : ∃ A2, A2 = cutA A c k 1 := ⟨_, rfl⟩
        rw [← hA2] at hcut hsl
        clear hA2
        have hne : (l.take T).drop k ≠ [] := by
          have := HL.out
          intro e
          have := congrArg List.length e
          simp at this
          omega
        have HS := Lib.hid (partsX_cons k ((l.take T).drop k) (decide (k = F)) hne)
        have hbd := pieceF_bd ((l.take T).drop k) (decide (k = F)) hne
        have hlen : ((l.take T).drop k).length = T - k := by have := HL.out; simp; omega
        rw [hlen] at hbd
        clear hne hlen
        by_cases hkF : k = F
        · have e1 : ((k : Int) == (F : Int)) = true := by rw [hkF]; simp
          have e2 : (k == F) = true := by simpa using hkF
          have e3 : decide (k = F) = true := by simpa using hkF
          have e4 : decide (k + 1 = F) = false := by simp; omega
          rw [e3] at HS hbd hinv
          obtain ⟨K, N, hKN⟩ : ∃ K N, pieceF ((l.take T).drop k) true = (K, N) := ⟨_, _, rfl⟩
          have HKN := Lib.hid hKN
          rw [hKN] at hbd HS
          obtain ⟨hb1, hb2⟩ := hbd
          dsimp only at hb1 hb2 HS
          clear hKN hkF e3 e4
          go_wp2_with fail
          refine (piece_any _ _ _ ((l.take T).drop k) true _ (hsl.kept hkept) (by omega) (by omega)).mono ?_
          rintro e w1 ⟨rfl, hk1⟩
          rw [HKN.out]
          have hk2 := hkept.trans hk1
          have hown1 := own_kept hown hk1
          go_wp2_with (at_builtin; refine wpList_push w (by rfl) _ _ (by rfl) appT_prt (by rfl) hown1 hk2 (by rfl) ?_ ?_; (exact ⟨by simp, rfl, rfl, by omega⟩); intro v' w' hown' hk' _ _)
          go_roundw
          case rel => exact ⟨k + N, P ++ [⟨K, k, k + N⟩], by omega, by omega, by go_num, by simpa [prtC] using hown', hk', by simp; omega, by
            unfold Hid
            rw [hinv.out, HS.out, show decide (k + N = F) = false by simp; omega, List.drop_drop]
            simp⟩
          case measure => simp [intOf]; omega
        · have e1 : ((k : Int) == (F : Int)) = false := by simp; omega
          have e2 : (k == F) = false := by simpa using hkF
          have e3 : decide (k = F) = false := by simpa using hkF
          have e4 : decide (k + 1 = F) = false := by simp; omega
          rw [e3] at HS hbd hinv
          obtain ⟨K, N, hKN⟩ : ∃ K N, pieceF ((l.take T).drop k) false = (K, N) := ⟨_, _, rfl⟩
          have HKN := Lib.hid hKN
          rw [hKN] at hbd HS
          obtain ⟨hb1, hb2⟩ := hbd
          dsimp only at hb1 hb2 HS
          clear hKN hkF e3 e4
          go_wp2_with fail
          refine (piece_any _ _ _ ((l.take T).drop k) false _ (hsl.kept hkept) (by omega) (by omega)).mono ?_
          rintro e w1 ⟨rfl, hk1⟩
          rw [HKN.out]
          have hk2 := hkept.trans hk1
          have hown1 := own_kept hown hk1
          go_wp2_with (at_builtin; refine wpList_push w (by rfl) _ _ (by rfl) appT_prt (by rfl) hown1 hk2 (by rfl) ?_ ?_; (exact ⟨by simp, rfl, rfl, by omega⟩); intro v' w' hown' hk' _ _)
          go_roundw
          case rel => exact ⟨k + N, P ++ [⟨K, k, k + N⟩], by omega, by omega, by go_num, by simpa [prtC] using hown', hk', by simp; omega, by
            unfold Hid
            rw [hinv.out, HS.out, show decide (k + N = F) = false by simp; omega, List.drop_drop]
            simp⟩
          case measure => simp [intOf]; omega
      · obtain rfl : k = T := by omega
        have HE : Hid (partsL l F k = P) := by
          have := HL.out
          unfold Hid
          rw [HV.out, hinv.out, List.drop_eq_nil_of_le (by simp; omega), partsX_nil, List.append_nil]
        obtain ⟨A', c', rfl, hsl⟩ := Sl.of_own hown
        go_wp2
        go_ret
        exact ⟨A', c', by rw [HE.out]; rfl, by rw [HE.out]; exact hsl, hkept, by rw [HE.out]; exact hown⟩
end Go.Proofs.Ytbebmmohambngaa
