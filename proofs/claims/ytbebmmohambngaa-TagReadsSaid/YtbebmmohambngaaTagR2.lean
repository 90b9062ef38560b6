/- The reference's parts of layer 8, walked. -/
import Derived.Test.YtbebmmohambngaaTagR1
namespace Go.Proofs.Ytbebmmohambngaa
open Go.RowKit

theorem appT_rprt : AppT Try.prog 26 31 3 := appT_mk (z := .agg #[.int .i64 0, .int .i64 0, .int .i64 0]) (bytes := 24) Try.underlying26 (by kernel_rfl) rfl (by omega) (by omega)
theorem rparts_any (A : Option Addr) (n c : Nat) (l : List Int) (f t : Int) (w : World) (h : Sl w 1 A n c (l.map (Value.int .i32))) (hn : n ≤ 1000000) (hr : Rn l) :
    Calls Try.prog 8 #[.slice A n c, .int .i64 f, .int .i64 t] w fun e w' => ∃ A' c', e = .returned (.slice A' (partsL l f t).length c') ∧ Sl w' 3 A' (partsL l f t).length c' ((partsL l f t).flatMap prtC) ∧ Kept w w' := by
  have hcap := h.cap
  have hmax := h.max
  have hl := h.llen1
  by_cases hbad : f < 0 ∨ t < f ∨ (l.length : Int) < t
  · have HV : Hid (partsL l f t = []) := by unfold Hid partsL; rw [if_pos hbad]
    have HB := Lib.hid (show f < 0 ∨ t < f ∨ (n : Int) < t by rw [← hl]; exact hbad)
    clear hbad hl
    go_enter Try.func8, Try.ntmps8
    go_wp2_with fail
    all_goals first
      | (exfalso; have := HB.out; omega)
      | (go_ret; exact ⟨none, 0, by rw [HV.out]; rfl, by rw [HV.out]; exact Sl.nil_, Kept.refl _⟩)
  · have hv : partsL l f t = partsX f ((l.take t.toNat).drop f.toNat) true := by unfold partsL; rw [if_neg hbad]
    rw [hl] at hbad
    obtain ⟨F, rfl⟩ := Int.eq_ofNat_of_zero_le (show 0 ≤ f by omega)
    obtain ⟨T, rfl⟩ := Int.eq_ofNat_of_zero_le (show 0 ≤ t by omega)
    rw [Int.toNat_natCast, Int.toNat_natCast] at hv
    have hFT : F ≤ T := by omega
    have hTn : T ≤ n := by omega
    have HV := Lib.hid hv
    have HL := Lib.hid hl
    have HR := Lib.hid hr
    clear hv hl hbad hr
    have d1 : decide ((T : Int) < F) = false := by simp; omega
    have d2 : decide ((n : Int) < T) = false := by simp; omega
    have d3 : decide (T < F) = false := by simp; omega
    have d4 : decide (n < T) = false := by simp; omega
    go_enter Try.func8, Try.ntmps8
    go_wp2_with fail
    go_loopw [7, 8] (fun o at_ wr => ∃ (k : Nat) (P : List Prt), F ≤ k ∧ k ≤ T ∧ at_ = .int .i64 k ∧ wr.ownsRow w.heap.size 31 3 o P.length (P.flatMap prtC) ∧ Kept w wr ∧ P.length ≤ k ∧
      Hid (partsX F ((l.take T).drop F) true = P ++ partsX k ((l.take T).drop k) (decide (k = F)))) (fun _ i _ => T - (intOf i).toNat)
    case atStart => exact ⟨F, [], Nat.le_refl _, hFT, rfl, World.ownsRow_nil _ _ _ _, Kept.refl _, Nat.zero_le _, by simp [Hid]⟩
    case round =>
      obtain ⟨k, P, hFk, hkT, rfl, hown, hkept, hPk, hinv⟩ := hrel
      by_cases hlt : k < T
      · have hne : (l.take T).drop k ≠ [] := by
          have := HL.out
          intro e
          have := congrArg List.length e
          simp at this
          omega
        have HS := Lib.hid (partsX_cons k ((l.take T).drop k) (decide (k = F)) hne)
        have hbd := pieceF_bd ((l.take T).drop k) (decide (k = F)) hne
        have hlen : ((l.take T).drop k).length = T - k := by have := HL.out; simp; omega
        rw [hlen] at hbd
        clear hne hlen
        obtain ⟨K, N, hKN⟩ : ∃ K N, pieceF ((l.take T).drop k) (decide (k = F)) = (K, N) := ⟨_, _, rfl⟩
        have HKN := Lib.hid hKN
        rw [hKN] at hbd HS
        obtain ⟨hb1, hb2⟩ := hbd
        dsimp only at hb1 hb2 HS
        clear hKN
        go_wp2_with fail
        refine (part1_any _ _ _ l F k T _ (h.kept hkept) hlt hTn hn HR.out).mono ?_
        rintro e w1 ⟨rfl, hk1⟩
        rw [HKN.out]
        have hk2 := hkept.trans hk1
        have hown1 := own_kept hown hk1
        go_wp2_with (at_builtin; refine wpList_push w (by rfl) _ _ (by rfl) appT_rprt (by rfl) (hown1.alloc _) (hk2.alloc _) (by rfl) ?_ ?_; (exact ⟨by simp, rfl, rfl, by omega⟩); intro v' w' hown' hk' hgr _; have hce : w'.cell? ⟨w1.heap.size, 2, none⟩ = some (.int .i64 (k + N)) := hgr.cell (by simp [go_sem]) (fun e => Nat.lt_irrefl _ (hown1.lt _ e.symm).2))
        go_roundw
        case rel => exact ⟨k + N, P ++ [⟨K, k, k + N⟩], by omega, by omega, by go_num, by simpa [prtC] using hown', hk', by simp; omega, by
          unfold Hid
          rw [hinv.out, HS.out, show decide (k + N = F) = false by simp; omega, List.drop_drop]
          simp⟩
        case measure => simp [intOf]; omega
      · obtain rfl : k = T := by omega
        have HE : Hid (partsL l F k = P) := by
          have := HL.out
          unfold Hid
          rw [HV.out, hinv.out, List.drop_eq_nil_of_le (by simp; omega), partsX_nil, List.append_nil]
        obtain ⟨A', c', rfl, hsl⟩ := Sl.of_own hown
        go_wp2
        go_ret
        exact ⟨A', c', by rw [HE.out]; rfl, by rw [HE.out]; exact hsl, hkept⟩
end Go.Proofs.Ytbebmmohambngaa
