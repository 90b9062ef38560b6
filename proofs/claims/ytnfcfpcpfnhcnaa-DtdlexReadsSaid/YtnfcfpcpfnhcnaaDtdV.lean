/- Layer 9, the document's: Words, Items; the law's like, same: walked. Printed by gen_dtdv.py. -/
import Derived.Test.YtnfcfpcpfnhcnaaDtdU
import Derived.Test.YtnfcfpcpfnhcnaaDtdA
namespace Go.Proofs.Ytnfcfpcpfnhcnaa
open Go.RowKit
attribute [local go_sem ↓] Go.wp_at_zero Go.wp_at_succ

theorem appT_rprt : AppT Try.prog 27 36 3 := appT_mk (z := .agg #[.int .i64 0, .int .i64 0, .int .i64 0]) (bytes := 24) Try.underlying27 (by kernel_rfl) rfl (by omega) (by omega)
theorem ne_own {w : World} {base : Nat} {e : TypeId} {size n : Nat} {v : Value} {xs : List Value} (h : w.ownsRow base e size v n xs) : some w.heap.size ≠ v.ownBlock := fun e => by
  have := h.lt _ e.symm
  omega


set_option maxHeartbeats 4000000 in
theorem rwords_any (A : Option Addr) (n c : Nat) (l : List Int) (f t : Int) (w : World) (h : Sl w 1 A n c (l.map (Value.int .i32))) (hn : n ≤ 1000000) (hr : Rn l) :
    Calls Try.prog 15 #[.slice A n c, .int .i64 f, .int .i64 t] w fun e w' => ∃ A' m c', m = (rowL wordF l f t).length ∧ e = .returned (.slice A' m c') ∧ Sl w' 3 A' m c' ((rowL wordF l f t).flatMap prtC) ∧ Kept w w' := by
  have hcap := h.cap
  have hmax := h.max
  have hl := h.llen1
  have hin := fun w' => rmay_any A n c f t w'
  by_cases hbad : f < 0 ∨ t < f ∨ (l.length : Int) < t
  · have HV : Hid (rowL wordF l f t = []) := by unfold Hid rowL; rw [if_pos hbad]
    rw [hl] at hbad
    rw [show decide (0 ≤ f ∧ f ≤ t ∧ t ≤ n) = false from decide_eq_false (by omega)] at hin
    have HI := Lib.hid hin
    clear hbad hin hr
    go_enter Try.func15, Try.ntmps15
    go_wp2_with fail
    refine (HI.out _).mono ?_
    rintro e w1 ⟨rfl, rfl⟩
    go_wp2_with fail
    go_ret
    exact ⟨none, 0, 0, by rw [HV.out]; rfl, rfl, by rw [HV.out]; exact Sl.nil_, Kept.refl _⟩
  · have hv : rowL wordF l f t = chainX wordF f ((l.take t.toNat).drop f.toNat) := by unfold rowL; rw [if_neg hbad]
    rw [hl] at hbad
    rw [show decide (0 ≤ f ∧ f ≤ t ∧ t ≤ n) = true from decide_eq_true (by omega)] at hin
    have HI := Lib.hid hin
    clear hin
    obtain ⟨F, rfl⟩ := Int.eq_ofNat_of_zero_le (show 0 ≤ f by omega)
    obtain ⟨T, rfl⟩ := Int.eq_ofNat_of_zero_le (show 0 ≤ t by omega)
    rw [Int.toNat_natCast, Int.toNat_natCast] at hv
    have hFT : F ≤ T := by omega
    have hTn : T ≤ n := by omega
    have hs := h.to1 (m := T) hTn
    have hsl : (l.take T).length = T := by rw [List.length_take, hl]; omega
    have hcut : ∀ wv : World, (Instr.slice 22 (.slice A n c) none (some (.int .i64 T)) none).run Try.prog wv = .ok (.slice A T c) wv := run_cut_h appT_runes A n c T (by omega)
    have HRN := Lib.hid (hr.take T)
    have HV := Lib.hid hv
    generalize l.take T = s at hs hsl HRN HV
    have HSL := Lib.hid hsl
    clear hv hl hbad hsl hr h
    go_enter Try.func15, Try.ntmps15
    go_wp2_with fail
    refine (HI.out _).mono ?_
    rintro e w1 ⟨rfl, rfl⟩
    go_wp2_with fail
    go_loopw [7, 8] (fun o at_ wr => ∃ (k : Nat) (P : List Prt), F ≤ k ∧ k ≤ T ∧ at_ = .int .i64 k ∧ wr.ownsRow w.heap.size 36 3 o P.length (P.flatMap prtC) ∧ Kept w wr ∧ P.length ≤ k ∧
      Hid (chainX wordF F (s.drop F) = P ++ chainX wordF k (s.drop k))) (fun _ i _ => T - (intOf i).toNat)
    case atStart => exact ⟨F, [], Nat.le_refl _, hFT, rfl, World.ownsRow_nil _ _ _ _, Kept.refl _, Nat.zero_le _, by simp [Hid]⟩
    case round =>
      obtain ⟨k, P, hFk, hkT, rfl, hown, hkept, hPk, hinv⟩ := hrel
      by_cases hlt : k < T
      · have hne : s.drop k ≠ [] := by
          have := HSL.out
          intro e
          have := congrArg List.length e
          simp at this
          omega
        have HS := Lib.hid (chainX_cons wordF_bd k (s.drop k) hne)
        have hbd := wordF_bd (s.drop k) hne
        rw [List.length_drop, HSL.out] at hbd
        clear hne
        obtain ⟨K, N, hKN⟩ : ∃ K N, wordF (s.drop k) = (K, N) := ⟨_, _, rfl⟩
        have HW := Lib.hid (rword_any A T c s k wr (hs.kept hkept) (by omega) hlt)
        rw [hKN] at hbd HS HW
        obtain ⟨hb1, hb2⟩ := hbd
        dsimp only at hb1 hb2 HS HW
        clear hKN
        go_wp2_with fail
        refine HW.out.mono ?_
        rintro e w1 ⟨rfl, hk1⟩
        have hk2 := hkept.trans hk1
        have hown1 := own_kept hown hk1
        have hneo := ne_own hown1
        go_upto_region 7 with fail
        have B2 : Blk (w1.alloc (.cells #[.int .i64 K, .int .i64 k, .int .i64 ((k : Int) + N)] 36)) w1.heap.size #[.int .i64 K, .int .i64 k, .int .i64 ((k : Int) + N)] 36 := Blk.new w1 _ _
        have hown2 := hown1.alloc (.cells #[.int .i64 K, .int .i64 k, .int .i64 ((k : Int) + N)] 36)
        have hk3 := hk2.alloc (.cells #[.int .i64 K, .int .i64 k, .int .i64 ((k : Int) + N)] 36)
        change Code.wp _ _ _ _ (w1.alloc (.cells #[.int .i64 K, .int .i64 k, .int .i64 ((k : Int) + N)] 36))
        generalize w1.alloc (.cells #[.int .i64 K, .int .i64 k, .int .i64 ((k : Int) + N)] 36) = w2 at B2 hown2 hk3 ⊢
        generalize w1.heap.size = g2 at B2 hneo ⊢
        have c0 : w2.cell? ⟨g2, 0, none⟩ = some (.int .i64 K) := B2.cell 0
        have c1 : w2.cell? ⟨g2, 1, none⟩ = some (.int .i64 k) := B2.cell 1
        have c2 : w2.cell? ⟨g2, 2, none⟩ = some (.int .i64 ((k : Int) + N)) := B2.cell 2
        have gl2 := B2.lt
        go_upto_region 8 with (at_builtin; refine wpList_push w (by rfl) _ _ (by rfl) appT_rprt (by rfl) hown2 hk3 (by rfl) ?_ ?_; (exact ⟨by simp, rfl, rfl, by omega⟩); intro v' w' hown' hk' hgr' _)
        have B5 := (B2.alloc (.cells #[.int .i64 K, .int .i64 k, .int .i64 ((k : Int) + N)] 36)).grown hgr' hneo
        have d2 : w'.cell? ⟨g2, 2, none⟩ = some (.int .i64 ((k : Int) + N)) := B5.cell 2
        clear c0 c1 c2 gl2
        go_wp2_with fail
        go_roundw
        case rel => exact ⟨k + N, P ++ [⟨K, k, k + N⟩], by omega, by omega, by go_num, by simpa [prtC] using hown', hk', by simp; omega, by
          unfold Hid
          rw [hinv.out, HS.out, List.drop_drop]
          simp⟩
        case measure => simp [intOf]; omega
      · obtain rfl : k = T := by omega
        have HE : Hid (rowL wordF l F k = P) := by
          unfold Hid
          rw [HV.out, hinv.out, List.drop_eq_nil_of_le (by rw [HSL.out]; exact Nat.le_refl _), chainX_nil, List.append_nil]
        obtain ⟨A', c', rfl, hsl⟩ := Sl.of_own hown
        go_wp2_with fail
        go_ret
        exact ⟨A', P.length, c', by rw [HE.out], rfl, by rw [HE.out]; exact hsl, hkept⟩

set_option maxHeartbeats 4000000 in
theorem ritems_any (A : Option Addr) (n c : Nat) (l : List Int) (f t : Int) (w : World) (h : Sl w 1 A n c (l.map (Value.int .i32))) (hn : n ≤ 1000000) (hr : Rn l) :
    Calls Try.prog 13 #[.slice A n c, .int .i64 f, .int .i64 t] w fun e w' => ∃ A' m c', m = (rowL itemF l f t).length ∧ e = .returned (.slice A' m c') ∧ Sl w' 3 A' m c' ((rowL itemF l f t).flatMap prtC) ∧ Kept w w' := by
  have hcap := h.cap
  have hmax := h.max
  have hl := h.llen1
  have hin := fun w' => rmay_any A n c f t w'
  by_cases hbad : f < 0 ∨ t < f ∨ (l.length : Int) < t
  · have HV : Hid (rowL itemF l f t = []) := by unfold Hid rowL; rw [if_pos hbad]
    rw [hl] at hbad
    rw [show decide (0 ≤ f ∧ f ≤ t ∧ t ≤ n) = false from decide_eq_false (by omega)] at hin
    have HI := Lib.hid hin
    clear hbad hin hr
    go_enter Try.func13, Try.ntmps13
    go_wp2_with fail
    refine (HI.out _).mono ?_
    rintro e w1 ⟨rfl, rfl⟩
    go_wp2_with fail
    go_ret
    exact ⟨none, 0, 0, by rw [HV.out]; rfl, rfl, by rw [HV.out]; exact Sl.nil_, Kept.refl _⟩
  · have hv : rowL itemF l f t = chainX itemF f ((l.take t.toNat).drop f.toNat) := by unfold rowL; rw [if_neg hbad]
    rw [hl] at hbad
    rw [show decide (0 ≤ f ∧ f ≤ t ∧ t ≤ n) = true from decide_eq_true (by omega)] at hin
    have HI := Lib.hid hin
    clear hin
    obtain ⟨F, rfl⟩ := Int.eq_ofNat_of_zero_le (show 0 ≤ f by omega)
    obtain ⟨T, rfl⟩ := Int.eq_ofNat_of_zero_le (show 0 ≤ t by omega)
    rw [Int.toNat_natCast, Int.toNat_natCast] at hv
    have hFT : F ≤ T := by omega
    have hTn : T ≤ n := by omega
    have hs := h.to1 (m := T) hTn
    have hsl : (l.take T).length = T := by rw [List.length_take, hl]; omega
    have hcut : ∀ wv : World, (Instr.slice 22 (.slice A n c) none (some (.int .i64 T)) none).run Try.prog wv = .ok (.slice A T c) wv := run_cut_h appT_runes A n c T (by omega)
    have HRN := Lib.hid (hr.take T)
    have HV := Lib.hid hv
    generalize l.take T = s at hs hsl HRN HV
    have HSL := Lib.hid hsl
    clear hv hl hbad hsl hr h
    go_enter Try.func13, Try.ntmps13
    go_wp2_with fail
    refine (HI.out _).mono ?_
    rintro e w1 ⟨rfl, rfl⟩
    go_wp2_with fail
    go_loopw [7, 8] (fun o at_ wr => ∃ (k : Nat) (P : List Prt), F ≤ k ∧ k ≤ T ∧ at_ = .int .i64 k ∧ wr.ownsRow w.heap.size 36 3 o P.length (P.flatMap prtC) ∧ Kept w wr ∧ P.length ≤ k ∧
      Hid (chainX itemF F (s.drop F) = P ++ chainX itemF k (s.drop k))) (fun _ i _ => T - (intOf i).toNat)
    case atStart => exact ⟨F, [], Nat.le_refl _, hFT, rfl, World.ownsRow_nil _ _ _ _, Kept.refl _, Nat.zero_le _, by simp [Hid]⟩
    case round =>
      obtain ⟨k, P, hFk, hkT, rfl, hown, hkept, hPk, hinv⟩ := hrel
      by_cases hlt : k < T
      · have hne : s.drop k ≠ [] := by
          have := HSL.out
          intro e
          have := congrArg List.length e
          simp at this
          omega
        have HS := Lib.hid (chainX_cons itemF_bd k (s.drop k) hne)
        have hbd := itemF_bd (s.drop k) hne
        rw [List.length_drop, HSL.out] at hbd
        clear hne
        obtain ⟨K, N, hKN⟩ : ∃ K N, itemF (s.drop k) = (K, N) := ⟨_, _, rfl⟩
        have HW := Lib.hid (ritem_any A T c s k wr (hs.kept hkept) (by omega) hlt HRN.out)
        rw [hKN] at hbd HS HW
        obtain ⟨hb1, hb2⟩ := hbd
        dsimp only at hb1 hb2 HS HW
        clear hKN
        go_wp2_with fail
        refine HW.out.mono ?_
        rintro e w1 ⟨rfl, hk1⟩
        have hk2 := hkept.trans hk1
        have hown1 := own_kept hown hk1
        have hneo := ne_own hown1
        go_upto_region 7 with fail
        have B2 : Blk (w1.alloc (.cells #[.int .i64 K, .int .i64 k, .int .i64 ((k : Int) + N)] 36)) w1.heap.size #[.int .i64 K, .int .i64 k, .int .i64 ((k : Int) + N)] 36 := Blk.new w1 _ _
        have hown2 := hown1.alloc (.cells #[.int .i64 K, .int .i64 k, .int .i64 ((k : Int) + N)] 36)
        have hk3 := hk2.alloc (.cells #[.int .i64 K, .int .i64 k, .int .i64 ((k : Int) + N)] 36)
        change Code.wp _ _ _ _ (w1.alloc (.cells #[.int .i64 K, .int .i64 k, .int .i64 ((k : Int) + N)] 36))
        generalize w1.alloc (.cells #[.int .i64 K, .int .i64 k, .int .i64 ((k : Int) + N)] 36) = w2 at B2 hown2 hk3 ⊢
        generalize w1.heap.size = g2 at B2 hneo ⊢
        have c0 : w2.cell? ⟨g2, 0, none⟩ = some (.int .i64 K) := B2.cell 0
        have c1 : w2.cell? ⟨g2, 1, none⟩ = some (.int .i64 k) := B2.cell 1
        have c2 : w2.cell? ⟨g2, 2, none⟩ = some (.int .i64 ((k : Int) + N)) := B2.cell 2
        have gl2 := B2.lt
        go_upto_region 8 with (at_builtin; refine wpList_push w (by rfl) _ _ (by rfl) appT_rprt (by rfl) hown2 hk3 (by rfl) ?_ ?_; (exact ⟨by simp, rfl, rfl, by omega⟩); intro v' w' hown' hk' hgr' _)
        have B5 := (B2.alloc (.cells #[.int .i64 K, .int .i64 k, .int .i64 ((k : Int) + N)] 36)).grown hgr' hneo
        have d2 : w'.cell? ⟨g2, 2, none⟩ = some (.int .i64 ((k : Int) + N)) := B5.cell 2
        clear c0 c1 c2 gl2
        go_wp2_with fail
        go_roundw
        case rel => exact ⟨k + N, P ++ [⟨K, k, k + N⟩], by omega, by omega, by go_num, by simpa [prtC] using hown', hk', by simp; omega, by
          unfold Hid
          rw [hinv.out, HS.out, List.drop_drop]
          simp⟩
        case measure => simp [intOf]; omega
      · obtain rfl : k = T := by omega
        have HE : Hid (rowL itemF l F k = P) := by
          unfold Hid
          rw [HV.out, hinv.out, List.drop_eq_nil_of_le (by rw [HSL.out]; exact Nat.le_refl _), chainX_nil, List.append_nil]
        obtain ⟨A', c', rfl, hsl⟩ := Sl.of_own hown
        go_wp2_with fail
        go_ret
        exact ⟨A', P.length, c', by rw [HE.out], rfl, by rw [HE.out]; exact hsl, hkept⟩

theorem dlike_any (p : Prt) (w : World) : Calls Try.prog 18 #[.agg #[.int .i64 p.k, .int .i64 p.f, .int .i64 p.t], .agg #[.int .i64 p.k, .int .i64 p.f, .int .i64 p.t]] w fun e w' => e = .returned (.bool true) ∧ Kept w w' := by
  go_enter Try.func18, Try.ntmps18
  go_wp2_with fail
  go_ret
  exact ⟨by first | rfl | simp, by repeat (first | (with_reducible exact Kept.refl _) | (with_reducible refine Kept.alloc ?_ _))⟩
set_option maxHeartbeats 4000000 in
theorem dsame_any (A B : Option Addr) (m c c' : Nat) (P : List Prt) (w : World) (hA : Sl w 3 A m c (P.flatMap prtC)) (hB : Sl w 3 B m c' (P.flatMap prtC)) (hm : m ≤ 1000000) :
    Calls Try.prog 8 #[.slice A m c, .slice B m c'] w fun e w' => e = .returned (.bool true) ∧ Kept w w' := by
  have h1 := hA.cap
  have h2 := hA.max
  have h3 := hB.cap
  have h4 := hB.max
  go_enter Try.func8, Try.ntmps8
  go_wp2_with fail
  go_loopw [13] (fun i wr => ∃ j : Nat, j ≤ m ∧ i = .int .i64 j ∧ Kept w wr) (fun i _ => m - (intOf i).toNat)
  case atStart => exact ⟨0, Nat.zero_le _, rfl, Kept.refl _⟩
  case round =>
    obtain ⟨j, hj, rfl, hkept⟩ := hrel
    by_cases hlt : j < m
    · obtain ⟨b, o, p, rfl, hp, hpc, hb⟩ := (hA.kept hkept).elemb prtC_len (by omega) hlt
      obtain ⟨b2, o2, p2, rfl, hp2, hpc2, hb2⟩ := (hB.kept hkept).elemb prtC_len (by omega) hlt
      obtain rfl : p2 = p := by rw [hp] at hp2; injection hp2 with h; exact h.symm
      have x0 : wr.cell? ⟨b, o + j * 3, none⟩ = some (.int .i64 p2.k) := hpc 0 _ rfl
      have x1 : wr.cell? ⟨b, o + j * 3 + 1, none⟩ = some (.int .i64 p2.f) := hpc 1 _ rfl
      have x2 : wr.cell? ⟨b, o + j * 3 + 2, none⟩ = some (.int .i64 p2.t) := hpc 2 _ rfl
      have y0 : wr.cell? ⟨b2, o2 + j * 3, none⟩ = some (.int .i64 p2.k) := hpc2 0 _ rfl
      have y1 : wr.cell? ⟨b2, o2 + j * 3 + 1, none⟩ = some (.int .i64 p2.f) := hpc2 1 _ rfl
      have y2 : wr.cell? ⟨b2, o2 + j * 3 + 2, none⟩ = some (.int .i64 p2.t) := hpc2 2 _ rfl
      have l1 : (j : Int) < m := by omega
      have HLK := Lib.hid (dlike_any p2)
      have MK : Hid (∀ w', Kept wr w' → w'.cell? ⟨b, o + j * 3, none⟩ = some (.int .i64 p2.k) ∧ w'.cell? ⟨b, o + j * 3 + 1, none⟩ = some (.int .i64 p2.f) ∧ w'.cell? ⟨b, o + j * 3 + 2, none⟩ = some (.int .i64 p2.t) ∧ w'.cell? ⟨b2, o2 + j * 3, none⟩ = some (.int .i64 p2.k) ∧ w'.cell? ⟨b2, o2 + j * 3 + 1, none⟩ = some (.int .i64 p2.f) ∧ w'.cell? ⟨b2, o2 + j * 3 + 2, none⟩ = some (.int .i64 p2.t)) :=
        fun w' kk => ⟨kk.cell x0, kk.cell x1, kk.cell x2, kk.cell y0, kk.cell y1, kk.cell y2⟩
      clear hpc hpc2 hp hp2 x0 x1 x2 y0 y1 y2
      go_upto_region 6 with fail
      go_region_held3 (fun w' => w'.cell? ⟨b, o + j * 3, none⟩ = some (.int .i64 p2.k) ∧ w'.cell? ⟨b, o + j * 3 + 1, none⟩ = some (.int .i64 p2.f) ∧ w'.cell? ⟨b, o + j * 3 + 2, none⟩ = some (.int .i64 p2.t) ∧ w'.cell? ⟨b2, o2 + j * 3, none⟩ = some (.int .i64 p2.k) ∧ w'.cell? ⟨b2, o2 + j * 3 + 1, none⟩ = some (.int .i64 p2.f) ∧ w'.cell? ⟨b2, o2 + j * 3 + 2, none⟩ = some (.int .i64 p2.t))
        (first | (with_reducible exact MK.out _ (Kept.refl wr).drew) | (with_reducible exact MK.out _ kw1))
        (first | (go_at_call 18; refine (HLK.out _).mono ?_; rintro e w2 ⟨rfl, k2⟩; have kw1 : Kept wr w2 := Kept.trans (Kept.refl wr).drew k2))
      all_goals
        go_wp2_with fail
        go_roundw
        case rel => exact ⟨j + 1, hlt, by go_num, hkept.trans kw1⟩
        case measure => simp [intOf]; omega
    · obtain rfl : j = m := by omega
      go_wp2_with fail
      go_ret
      exact ⟨rfl, hkept⟩
end Go.Proofs.Ytnfcfpcpfnhcnaa
