/- The law SpanReplace, walked. -/
import Derived.Test.YtdcigdkeakiknaaSpanA
namespace Go.Proofs.Ytdcigdkeakiknaa
open Go.RowKit
attribute [local go_sem ↓] Go.wp_at_zero Go.wp_at_succ

theorem lenF_nat {F T : Nat} (h : F ≤ T) (h2 : T ≤ 80) : lenF F T = ((T - F : Nat) : Int) := by
  unfold lenF
  (repeat' split) <;> omega
set_option maxRecDepth 100000 in
set_option maxHeartbeats 4000000 in
theorem spanReplace_any (A : Option Addr) (n c : Nat) (l : List Int) (f t : Int) (A' : Option Addr) (n' c' : Nat) (l' : List Int) (x : Int) (w : World) (h : Sl w 1 A n c (l.map (Value.int .u8))) (h' : Sl w 1 A' n' c' (l'.map (Value.int .u8)))
    (h1 : -9223372036854775808 ≤ f) (h2 : f ≤ 9223372036854775807) (h3 : -9223372036854775808 ≤ t) (h4 : t ≤ 9223372036854775807) :
    Calls Try.prog 6 #[.slice A n c, .agg #[.int .i64 f, .int .i64 t], .slice A' n' c', .int .i64 x] w fun e w' => e = .returned (.bool true) ∧ Kept w w' := by
  have hcap := h.cap
  have hmax := h.max
  have hcap' := h'.cap
  have hmax' := h'.max
  go_enter Try.func6, Try.ntmps6
  go_upto_if 14 with fail
  go_cut [0] (fun s0 wx => ∃ (N : Nat) (LB : List Int), s0 = .slice A N c ∧ Sl w 1 A N c (LB.map (Value.int .u8)) ∧ N ≤ 80 ∧ N ≤ c ∧ wx = w.alloc (.cells #[.int .i64 f, .int .i64 t] 31))
  case first =>
    rcases (show 80 < n ∨ n ≤ 80 by omega) with hn | hn
    · have hcut := run_cut_h appT_bytes A n c 80 (by omega)
      go_wp2_with fail
      go_meet
      exact ⟨80, l.take 80, rfl, h.to1 (m := 80) (by omega), by omega, by omega, rfl⟩
    · go_wp2_with fail
      go_meet
      exact ⟨n, l, rfl, h, by omega, by omega, rfl⟩
  case rest =>
    obtain ⟨N, LB, rfl, hB, hN, hNc, rfl⟩ := hcut
    go_upto_if 19 with fail
    go_cut [2] (fun s2 wx => ∃ (N' : Nat) (LC : List Int), s2 = .slice A' N' c' ∧ Sl w 1 A' N' c' (LC.map (Value.int .u8)) ∧ N' ≤ 40 ∧ N' ≤ c' ∧ wx = w.alloc (.cells #[.int .i64 f, .int .i64 t] 31))
    case first =>
      rcases (show 40 < n' ∨ n' ≤ 40 by omega) with hn | hn
      · have hcut := run_cut_h appT_bytes A' n' c' 40 (by omega)
        go_wp2_with fail
        go_meet
        exact ⟨40, l'.take 40, rfl, h'.to1 (m := 40) (by omega), by omega, by omega, rfl⟩
      · go_wp2_with fail
        go_meet
        exact ⟨n', l', rfl, h', by omega, by omega, rfl⟩
    case rest =>
      obtain ⟨N', LC, rfl, hC, hN', hNc', rfl⟩ := hcut
      clear h h' hcap hmax hcap' hmax'
      cases hbad : badF f t N
      · simp only [badF, Bool.or_eq_false_iff, decide_eq_false_iff_not] at hbad
        obtain ⟨⟨g1, g2⟩, g3⟩ := hbad
        obtain ⟨F, rfl⟩ := Int.eq_ofNat_of_zero_le (show 0 ≤ f by omega)
        obtain ⟨T, rfl⟩ := Int.eq_ofNat_of_zero_le (show 0 ≤ t by omega)
        have gFT : F ≤ T := by omega
        have gTN : T ≤ N := by omega
        go_wp2_with fail
        refine (ours_any _ _ _).mono ?_
        rintro e w1 ⟨rfl, rfl⟩
        go_wp2_with fail
        refine (replace_ok _ _ _ LB F T _ _ _ LC _ (hB.kept ?_) (hC.kept ?_) gFT gTN (by omega) (by omega)).mono ?_
        · repeat (first | exact Kept.refl _ | refine Kept.alloc ?_ _)
        · repeat (first | exact Kept.refl _ | refine Kept.alloc ?_ _)
        rintro e w1 ⟨A2, n2, c2, rfl, hs2, hn2, hk1⟩
        have HN2 := Lib.hid hn2
        clear hn2
        obtain ⟨hc1, hf1, hz1⟩ := hk1.old
        have b0 : w1.cell? ⟨w.heap.size, 0, none⟩ = some (.int .i64 F) := hk1.cell (by simp [go_sem])
        have b1 : w1.cell? ⟨w.heap.size, 1, none⟩ = some (.int .i64 T) := hk1.cell (by simp [go_sem])
        have bl : w.heap.size < w1.heap.size := World.block_lt_of_cell? _ _ b0
        clear hc1 hf1 hz1
        have hK : Kept w w1 := ((Kept.refl _).alloc _ |>.alloc _ |>.alloc _).trans hk1
        have hB1 := hB.kept hK
        have hC1 := hC.kept hK
        have q1 := run_str_q (P := Try.prog) Try.underlying40 Try.underlying5 Try.underlying9 hs2 _ (strOfNums_append3 _ _ _)
        have q2 := run_str_q (P := Try.prog) Try.underlying40 Try.underlying5 Try.underlying9 (hB1.to1 (m := F) (by omega)) _ rfl
        have q3 := run_str_q (P := Try.prog) Try.underlying40 Try.underlying5 Try.underlying9 hC1 _ rfl
        have q4 := run_str_q (P := Try.prog) Try.underlying40 Try.underlying5 Try.underlying9 (hB1.from1 (i := T) (by omega)) _ rfl
        have hcut1 := run_cut_h appT_bytes A N c F (by omega)
        have hcut2 := run_cut_l appT_bytes A N c T (by omega)
        have z1 : ¬ ((strOfNums (LB.take F)).size + (strOfNums LC).size > 9223372036854775807) := by
          rw [strOfNums_size, strOfNums_size]
          have := hB.llen1
          have := hC.llen1
          have := List.length_take_le F LB
          omega
        have z2 : ¬ ((strOfNums (LB.take F) ++ strOfNums LC).size + (strOfNums (LB.drop T)).size > 9223372036854775807) := by
          rw [← strOfNums_append, strOfNums_size, strOfNums_size, List.length_append, List.length_drop]
          have := hB.llen1
          have := hC.llen1
          have := List.length_take_le F LB
          omega
        go_wp2_with fail
        go_quiet (fail)
        rcases (show x < 0 ∨ (N : Int) ≤ x ∨ (0 ≤ x ∧ x < N) by omega) with hx | hx | ⟨hx0, hx1⟩
        · go_wp2_with fail
          refine (awake_any _).mono ?_
          rintro e w2 ⟨rfl, hk2⟩
          go_wp2
          go_ret
          exact ⟨rfl, (hK.drewN _).trans hk2⟩
        · go_wp2_with fail
          refine (awake_any _).mono ?_
          rintro e w2 ⟨rfl, hk2⟩
          go_wp2
          go_ret
          exact ⟨rfl, (hK.drewN _).trans hk2⟩
        · obtain ⟨X, rfl⟩ := Int.eq_ofNat_of_zero_le hx0
          have hXN : X < N := by omega
          have hl3 := lenF_nat gFT (by omega : T ≤ 80)
          go_wp2_with fail
          refine (ours_any _ _ _).mono ?_
          rintro e w2 ⟨rfl, rfl⟩
          go_wp2_with fail
          refine (shift_any _ _ _ _ _ h1 h2 h3 h4).mono ?_
          rintro e w2 ⟨rfl, hk2⟩
          obtain ⟨hc2, hf2, hz2⟩ := hk2.old
          have HK3 := ((Kept.refl _).alloc _ |>.alloc _).trans hk2
          have HK2 : Kept w1 w2 := ((Kept.refl w1).drewN _).trans HK3
          have d0 := HK2.cell b0
          have d1 := HK2.cell b1
          clear hc2 hf2 hz2
          rcases (show X < F ∨ (F ≤ X ∧ X < T) ∨ T ≤ X by omega) with hF | ⟨hF, hT⟩ | hT
          · have HV : shiftF X F T N' = X := by
              unfold shiftF
              rw [if_pos (by simp [wrongF]; omega)]
            rw [HV]
            clear HV hl3
            obtain ⟨y, hy1, hy2⟩ : ∃ y, LB[X]? = some y ∧ (LB.take F ++ (LC ++ LB.drop T))[X]? = some y := by
              have hl := hB.llen1
              have hl2 := hC.llen1
              refine ⟨LB[X], List.getElem?_eq_getElem (by omega), ?_⟩
              rw [List.getElem?_append_left (by simp; omega), List.getElem?_take_of_lt hF]
              exact List.getElem?_eq_getElem (by omega)
            have s1 := hB1.kept HK2
            have s2 := hs2.kept HK2
            obtain ⟨b, o, y', rfl, hy', hcy, hby⟩ := s1.oneb (k := X) hXN
            obtain rfl : y = y' := by rw [hy1] at hy'; simpa using hy'
            have hX2 : X < n2 := by have := HN2.out; omega
            have hgd : decide (X < n2) = true := by simpa using hX2
            obtain ⟨b2, o2, y', rfl, hy', hcy2, hby2⟩ := s2.oneb (k := X) hX2
            obtain rfl : y = y' := by rw [hy2] at hy'; simpa using hy'
            clear hy1 hy2 hy'
            go_wp2_with fail
            go_region_held3 (fun w' => w'.cell? ⟨b2, o2 + X, none⟩ = some (.int .u8 y) ∧ w'.cell? ⟨b, o + X, none⟩ = some (.int .u8 y)) (first | go_keep | exact ⟨hk3.cell (by go_simp), hk3.cell (by go_simp)⟩) (first | (go_at_call 11; refine (awake_any _).mono ?_; rintro e w3 ⟨rfl, hk3⟩))
            all_goals go_wp2
            all_goals go_ret
            all_goals exact ⟨rfl, ((hK.drewN _).trans HK3).drew.trans hk3⟩
          · have HV : shiftF X F T N' = F := by
              unfold shiftF
              rw [if_neg (by simp [wrongF]; omega), if_neg (by omega)]
            rw [HV]
            clear HV hl3
            go_wp2_with fail
            refine (awake_any _).mono ?_
            rintro e w3 ⟨rfl, hk3⟩
            go_wp2
            go_ret
            exact ⟨rfl, ((hK.drewN _).trans HK3).trans hk3⟩
          · have HV : shiftF X F T N' = ((X + N' - (T - F) : Nat) : Int) := by
              unfold shiftF
              rw [if_neg (by simp [wrongF]; omega), if_pos (by omega), hl3]
              omega
            rw [HV]
            obtain ⟨K, hKK⟩ : ∃ K, K = X + N' - (T - F) := ⟨_, rfl⟩
            rw [← hKK]
            have hKK2 : K + (T - F) = X + N' := by omega
            have HKK := Lib.hid hKK2
            have hK3 : K < F + (N' + (N - T)) := by omega
            clear HV hl3 hKK hKK2
            obtain ⟨y, hy1, hy2⟩ : ∃ y, LB[X]? = some y ∧ (LB.take F ++ (LC ++ LB.drop T))[K]? = some y := by
              have := HKK.out
              have hl := hB.llen1
              have hl2 := hC.llen1
              refine ⟨LB[X], List.getElem?_eq_getElem (by omega), ?_⟩
              rw [List.getElem?_append_right (by simp; omega), List.getElem?_append_right (by simp; omega), List.getElem?_drop]
              rw [← List.getElem?_eq_getElem]
              congr 1
              simp
              omega
            have s1 := hB1.kept HK2
            have s2 := hs2.kept HK2
            obtain ⟨b, o, y', rfl, hy', hcy, hby⟩ := s1.oneb (k := X) hXN
            obtain rfl : y = y' := by rw [hy1] at hy'; simpa using hy'
            have hX2 : K < n2 := by have := HN2.out; omega
            have hgd : decide (K < n2) = true := by simpa using hX2
            obtain ⟨b2, o2, y', rfl, hy', hcy2, hby2⟩ := s2.oneb (k := K) hX2
            obtain rfl : y = y' := by rw [hy2] at hy'; simpa using hy'
            clear hy1 hy2 hy'
            go_wp2_with fail
            go_region_held3 (fun w' => w'.cell? ⟨b2, o2 + K, none⟩ = some (.int .u8 y) ∧ w'.cell? ⟨b, o + X, none⟩ = some (.int .u8 y)) (first | go_keep | exact ⟨hk3.cell (by go_simp), hk3.cell (by go_simp)⟩) (first | (go_at_call 11; refine (awake_any _).mono ?_; rintro e w3 ⟨rfl, hk3⟩))
            all_goals go_wp2
            all_goals go_ret
            all_goals exact ⟨rfl, ((hK.drewN _).trans HK3).drew.trans hk3⟩
      · have HB := Lib.hid hbad
        clear hbad
        go_wp2_with fail
        refine (ours_any _ _ _).mono ?_
        rintro e w1 ⟨rfl, rfl⟩
        go_wp2_with fail
        refine (replace_no _ _ _ _ _ _ _ HB.out).mono ?_
        rintro e w1 ⟨rfl, hk1⟩
        obtain ⟨hc1, hf1, hz1⟩ := hk1.old
        go_wp2_with (go_at_call 11; refine (awake_any _).mono ?_; rintro e w2 ⟨rfl, hk2⟩)
        all_goals first
          | (exfalso; have := HB.out; simp [badF] at this; omega)
          | (go_ret; exact ⟨rfl, (((Kept.refl _).alloc _ |>.alloc _ |>.alloc _).trans hk1).trans hk2⟩)
end Go.Proofs.Ytdcigdkeakiknaa
