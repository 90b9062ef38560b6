/- The reference's part of layer 8 at a place, walked. -/
import Derived.Test.YtbebmmohambngaaTagR
namespace Go.Proofs.Ytbebmmohambngaa
open Go.RowKit

set_option maxHeartbeats 40000000 in
theorem part1_any (A : Option Addr) (n c : Nat) (l : List Int) (F k T : Nat) (w : World) (h : Sl w 1 A n c (l.map (Value.int .i32))) (hkT : k < T) (hT : T ≤ n) (hn : n ≤ 1000000) (hr : Rn l) :
    Calls Try.prog 14 #[.slice A n c, .int .i64 F, .int .i64 k, .int .i64 T] w fun e w' =>
      e = .returned (.agg #[.int .i64 (pieceF ((l.take T).drop k) (decide (k = F))).1, .int .i64 k, .int .i64 (k + (pieceF ((l.take T).drop k) (decide (k = F))).2)]) ∧ Kept w w' := by
  have hmax := h.max
  have hcap := h.cap
  have HL := Lib.hid h.llen1
  obtain ⟨b, o, x, rfl, hx, hc, hb⟩ := h.oneb (k := k) (by omega)
  have hxT := part1_step hx hkT
  have hhead : ((l.take T).drop k).head? = some x := by rw [drop_get hxT]; rfl
  have HXT := Lib.hid hxT
  have HX := Lib.hid hx
  clear hx hxT
  have hcut := run_cut_h appT_runes (some ⟨b, o, none⟩) n c T (by omega)
  have HR := Lib.hid hr
  clear hr
  by_cases c1 : (decide (k = F) && startsF [60, 47] ((l.take T).drop k)) = true
  · have HV : Hid (pieceF ((l.take T).drop k) (decide (k = F)) = (1, 2)) := by unfold Hid pieceF; rw [if_pos c1]
    obtain ⟨c2, c3⟩ := Bool.and_eq_true_iff.1 c1
    obtain rfl : k = F := by simpa using c2
    have e60 : x = 60 := starts_head c3 hhead
    subst e60
    clear c1 c2 hhead
    go_enter Try.func14, Try.ntmps14
    go_wp2_with fail
    refine (rstarts_lit _ _ _ (l.take T) k #[60, 47] [60, 47] _ ((h.to1 hT).kept ((Kept.refl _).alloc _)) (by decide) (by omega) (by omega) (by decide) (HR.out.take T)).mono ?_
    rintro e w1 ⟨rfl, hk1⟩
    obtain ⟨o1, o2, o3⟩ := hk1.old
    have HK : Kept w w1 := ((Kept.refl _).alloc _).trans hk1
    go_wp2_with fail
    exact bodyPost_ret (v := .agg #[.int .i64 1, .int .i64 k, .int .i64 (k + 2)]) (by simp [results, Try.results14, go_sem, o1]; try omega) rfl ⟨by (rw [HV.out]; try rfl), ((HK.setCell (Nat.le_refl _) _).setCell (Nat.le_refl _) _).setCell (Nat.le_refl _) _⟩
  by_cases c2 : (decide (k = F) && (((l.take T).drop k).head? == some 60)) = true
  · have HV : Hid (pieceF ((l.take T).drop k) (decide (k = F)) = (1, 1)) := by unfold Hid pieceF; rw [if_neg c1, if_pos c2]
    obtain ⟨c3, c4⟩ := Bool.and_eq_true_iff.1 c2
    obtain rfl : k = F := by simpa using c3
    have c5 : startsF [60, 47] ((l.take T).drop k) = false := by simpa using c1
    obtain rfl : x = 60 := by simpa [hhead] using c4
    clear c1 c2 c3 c4 hhead
    go_enter Try.func14, Try.ntmps14
    go_wp2_with fail
    refine (rstarts_lit _ _ _ (l.take T) k #[60, 47] [60, 47] _ ((h.to1 hT).kept ((Kept.refl _).alloc _)) (by decide) (by omega) (by omega) (by decide) (HR.out.take T)).mono ?_
    rintro e w1 ⟨rfl, hk1⟩
    obtain ⟨o1, o2, o3⟩ := hk1.old
    have HK : Kept w w1 := ((Kept.refl _).alloc _).trans hk1
    go_wp2_with fail
    exact bodyPost_ret (v := .agg #[.int .i64 1, .int .i64 k, .int .i64 (k + 1)]) (by simp [results, Try.results14, go_sem, o1]; try omega) rfl ⟨by (rw [HV.out]; try rfl), ((HK.setCell (Nat.le_refl _) _).setCell (Nat.le_refl _) _).setCell (Nat.le_refl _) _⟩
  have hlf : leadF ((l.take T).drop k) ≤ T - k := by
    have h1 := leadF_le ((l.take T).drop k)
    have h2 : ((l.take T).drop k).length = T - k := by have := HL.out; simp; omega
    omega
  have D : (((k : Int) == (F : Int)) = false ∧ (k == F) = false) ∨ (k = F ∧ (x == 60) = false) := by
    by_cases hkF : k = F
    · refine .inr ⟨hkF, ?_⟩
      rw [hhead] at c2
      simpa [hkF] using c2
    · exact .inl ⟨by simp; omega, by simpa using hkF⟩
  have hE : (x == 61) = (((l.take T).drop k).head? == some 61) := by rw [hhead]; rfl
  have hV0 : pieceF ((l.take T).drop k) (decide (k = F)) = if 0 < runF isSpace ((l.take T).drop k) then (3, runF isSpace ((l.take T).drop k)) else if 0 < leadF ((l.take T).drop k) then (2, leadF ((l.take T).drop k)) else if ((l.take T).drop k).head? == some 61 then (4, 1) else if 0 < valueF ((l.take T).drop k) then (5, valueF ((l.take T).drop k)) else if ((l.take T).drop k) == [47, 62] || ((l.take T).drop k) == [62] then (6, ((l.take T).drop k).length) else (7, 1) := by
    rw [pieceF, if_neg c1, if_neg c2]
  clear c1 c2
  cases hsp : isSpace x
  · have hrun := runF_no HXT.out hsp
    rw [if_neg (by omega)] at hV0
    clear hrun
    by_cases c4 : 0 < leadF ((l.take T).drop k)
    · have HV : Hid (pieceF ((l.take T).drop k) (decide (k = F)) = (2, leadF ((l.take T).drop k))) := by unfold Hid; rw [hV0, if_pos c4]
      clear hV0 hE hhead
      rcases D with ⟨e1, e2⟩ | ⟨rfl, d1⟩
      · go_enter Try.func14, Try.ntmps14
        go_wp2_with fail
        refine (rspace_any x _).mono ?_
        rintro e w1 ⟨rfl, rfl⟩
        go_wp2_with fail
        refine (rlead_any _ _ _ (l.take T) k _ ((h.to1 hT).kept ((Kept.refl _).alloc _)) (by omega)).mono ?_
        rintro e w1 ⟨rfl, hk1⟩
        obtain ⟨o1, o2, o3⟩ := hk1.old
        rw [Int.toNat_natCast]
        have HK : Kept w w1 := ((Kept.refl _).alloc _).trans hk1
        have hc := HK.cell hc
        go_wp2_with fail
        exact bodyPost_ret (v := .agg #[.int .i64 2, .int .i64 k, .int .i64 (k + leadF ((l.take T).drop k))]) (by simp [results, Try.results14, go_sem, o1]; try omega) rfl ⟨by (rw [HV.out]; try rfl), ((HK.setCell (Nat.le_refl _) _).setCell (Nat.le_refl _) _).setCell (Nat.le_refl _) _⟩
      · go_enter Try.func14, Try.ntmps14
        go_wp2_with fail
        refine (rspace_any x _).mono ?_
        rintro e w1 ⟨rfl, rfl⟩
        go_wp2_with fail
        refine (rlead_any _ _ _ (l.take T) k _ ((h.to1 hT).kept ((Kept.refl _).alloc _)) (by omega)).mono ?_
        rintro e w1 ⟨rfl, hk1⟩
        obtain ⟨o1, o2, o3⟩ := hk1.old
        rw [Int.toNat_natCast]
        have HK : Kept w w1 := ((Kept.refl _).alloc _).trans hk1
        have hc := HK.cell hc
        go_wp2_with fail
        exact bodyPost_ret (v := .agg #[.int .i64 2, .int .i64 k, .int .i64 (k + leadF ((l.take T).drop k))]) (by simp [results, Try.results14, go_sem, o1]; try omega) rfl ⟨by (rw [HV.out]; try rfl), ((HK.setCell (Nat.le_refl _) _).setCell (Nat.le_refl _) _).setCell (Nat.le_refl _) _⟩
    rw [if_neg c4, ← hE] at hV0
    by_cases c5 : (x == 61) = true
    · have HV : Hid (pieceF ((l.take T).drop k) (decide (k = F)) = (4, 1)) := by unfold Hid; rw [hV0, if_pos c5]
      clear hV0 hE hhead
      rcases D with ⟨e1, e2⟩ | ⟨rfl, d1⟩
      · go_enter Try.func14, Try.ntmps14
        go_wp2_with fail
        refine (rspace_any x _).mono ?_
        rintro e w1 ⟨rfl, rfl⟩
        go_wp2_with fail
        refine (rlead_any _ _ _ (l.take T) k _ ((h.to1 hT).kept ((Kept.refl _).alloc _)) (by omega)).mono ?_
        rintro e w1 ⟨rfl, hk1⟩
        obtain ⟨o1, o2, o3⟩ := hk1.old
        rw [Int.toNat_natCast]
        have HK : Kept w w1 := ((Kept.refl _).alloc _).trans hk1
        have hc := HK.cell hc
        go_wp2_with fail
        exact bodyPost_ret (v := .agg #[.int .i64 4, .int .i64 k, .int .i64 (k + 1)]) (by simp [results, Try.results14, go_sem, o1]; try omega) rfl ⟨by (rw [HV.out]; try rfl), ((HK.setCell (Nat.le_refl _) _).setCell (Nat.le_refl _) _).setCell (Nat.le_refl _) _⟩
      · go_enter Try.func14, Try.ntmps14
        go_wp2_with fail
        refine (rspace_any x _).mono ?_
        rintro e w1 ⟨rfl, rfl⟩
        go_wp2_with fail
        refine (rlead_any _ _ _ (l.take T) k _ ((h.to1 hT).kept ((Kept.refl _).alloc _)) (by omega)).mono ?_
        rintro e w1 ⟨rfl, hk1⟩
        obtain ⟨o1, o2, o3⟩ := hk1.old
        rw [Int.toNat_natCast]
        have HK : Kept w w1 := ((Kept.refl _).alloc _).trans hk1
        have hc := HK.cell hc
        go_wp2_with fail
        exact bodyPost_ret (v := .agg #[.int .i64 4, .int .i64 k, .int .i64 (k + 1)]) (by simp [results, Try.results14, go_sem, o1]; try omega) rfl ⟨by (rw [HV.out]; try rfl), ((HK.setCell (Nat.le_refl _) _).setCell (Nat.le_refl _) _).setCell (Nat.le_refl _) _⟩
    rw [if_neg c5] at hV0
    have c5' : (x == 61) = false := by simpa using c5
    clear c5 hE
    have hval : valueF ((l.take T).drop k) = if isQuote x then (if closeN x (l.take T) (k + 1) = 0 then 0 else closeN x (l.take T) (k + 1) - k) else 0 := by
      have h0 : ((l.take T).drop k)[0]? = some x := by rw [List.getElem?_drop]; exact HXT.out
      cases hq : isQuote x
      · rw [valueF_none h0 hq]; rfl
      · rw [valueF_quote h0 hq, if_pos rfl, closeN_drop]
    have hcl : closeN x (l.take T) (k + 1) ≤ T := by
      unfold closeN
      split
      · rename_i j hj
        have h1 := closeF_lt hj
        have h2 : ((l.take T).drop (k + 1)).length = T - (k + 1) := by have := HL.out; simp; omega
        omega
      · omega
    by_cases c6 : 0 < valueF ((l.take T).drop k)
    · have HV : Hid (pieceF ((l.take T).drop k) (decide (k = F)) = (5, valueF ((l.take T).drop k))) := by unfold Hid; rw [hV0, if_pos c6]
      have hq : isQuote x = true := by
        cases hq : isQuote x
        · rw [hval, hq] at c6
          simp at c6
        · rfl
      rw [hq, if_pos rfl] at hval
      have hc0 : closeN x (l.take T) (k + 1) ≠ 0 := by
        intro e
        rw [hval, if_pos e] at c6
        omega
      rw [if_neg hc0] at hval
      have hqn : quoN (closeN x (l.take T) (k + 1)) = (closeN x (l.take T) (k + 1) : Int) := by unfold quoN; rw [if_neg hc0]
      have hkv : (k : Int) + valueF ((l.take T).drop k) = closeN x (l.take T) (k + 1) := by omega
      have HKV := Lib.hid hkv
      have HQN := Lib.hid hqn
      have hcp : 0 < closeN x (l.take T) (k + 1) := by omega
      have g : (x == 34) = true ∨ ((x == 34) = false ∧ (x == 39) = true) := by
        simp only [isQuote] at hq
        cases h1 : (x == 34)
        · rw [h1] at hq; exact .inr ⟨rfl, by simpa using hq⟩
        · exact .inl rfl
      clear hV0 hhead hval c6 hc0 hqn hkv hq
      rcases g with g1 | ⟨g1, g2⟩
      · rcases D with ⟨e1, e2⟩ | ⟨rfl, d1⟩
        · go_enter Try.func14, Try.ntmps14
          go_wp2_with fail
          refine (rspace_any x _).mono ?_
          rintro e w1 ⟨rfl, rfl⟩
          go_wp2_with fail
          refine (rlead_any _ _ _ (l.take T) k _ ((h.to1 hT).kept ((Kept.refl _).alloc _)) (by omega)).mono ?_
          rintro e w1 ⟨rfl, hk1⟩
          obtain ⟨o1, o2, o3⟩ := hk1.old
          rw [Int.toNat_natCast]
          have HK : Kept w w1 := ((Kept.refl _).alloc _).trans hk1
          have hc := HK.cell hc
          go_wp2_with fail
          refine (rquoted_any _ _ _ l k T x _ ((h.kept HK)) hkT hT HX.out hn).mono ?_
          rintro e w2 ⟨rfl, hk2⟩
          rw [HQN.out]
          obtain ⟨p1, p2, p3⟩ := hk2.old
          obtain ⟨q1, q2, q3⟩ := (hk1.trans hk2).old
          have HK := HK.trans hk2
          go_wp2_with fail
          exact bodyPost_ret (v := .agg #[.int .i64 5, .int .i64 k, .int .i64 (closeN x (l.take T) (k + 1))]) (by simp [results, Try.results14, go_sem, q1]; try omega) rfl ⟨by rw [HV.out, ← HKV.out], ((HK.setCell (Nat.le_refl _) _).setCell (Nat.le_refl _) _).setCell (Nat.le_refl _) _⟩
        · go_enter Try.func14, Try.ntmps14
          go_wp2_with fail
          refine (rspace_any x _).mono ?_
          rintro e w1 ⟨rfl, rfl⟩
          go_wp2_with fail
          refine (rlead_any _ _ _ (l.take T) k _ ((h.to1 hT).kept ((Kept.refl _).alloc _)) (by omega)).mono ?_
          rintro e w1 ⟨rfl, hk1⟩
          obtain ⟨o1, o2, o3⟩ := hk1.old
          rw [Int.toNat_natCast]
          have HK : Kept w w1 := ((Kept.refl _).alloc _).trans hk1
          have hc := HK.cell hc
          go_wp2_with fail
          refine (rquoted_any _ _ _ l k T x _ ((h.kept HK)) hkT hT HX.out hn).mono ?_
          rintro e w2 ⟨rfl, hk2⟩
          rw [HQN.out]
          obtain ⟨p1, p2, p3⟩ := hk2.old
          obtain ⟨q1, q2, q3⟩ := (hk1.trans hk2).old
          have HK := HK.trans hk2
          go_wp2_with fail
          exact bodyPost_ret (v := .agg #[.int .i64 5, .int .i64 k, .int .i64 (closeN x (l.take T) (k + 1))]) (by simp [results, Try.results14, go_sem, q1]; try omega) rfl ⟨by rw [HV.out, ← HKV.out], ((HK.setCell (Nat.le_refl _) _).setCell (Nat.le_refl _) _).setCell (Nat.le_refl _) _⟩
      · rcases D with ⟨e1, e2⟩ | ⟨rfl, d1⟩
        · go_enter Try.func14, Try.ntmps14
          go_wp2_with fail
          refine (rspace_any x _).mono ?_
          rintro e w1 ⟨rfl, rfl⟩
          go_wp2_with fail
          refine (rlead_any _ _ _ (l.take T) k _ ((h.to1 hT).kept ((Kept.refl _).alloc _)) (by omega)).mono ?_
          rintro e w1 ⟨rfl, hk1⟩
          obtain ⟨o1, o2, o3⟩ := hk1.old
          rw [Int.toNat_natCast]
          have HK : Kept w w1 := ((Kept.refl _).alloc _).trans hk1
          have hc := HK.cell hc
          go_wp2_with fail
          refine (rquoted_any _ _ _ l k T x _ ((h.kept HK)) hkT hT HX.out hn).mono ?_
          rintro e w2 ⟨rfl, hk2⟩
          rw [HQN.out]
          obtain ⟨p1, p2, p3⟩ := hk2.old
          obtain ⟨q1, q2, q3⟩ := (hk1.trans hk2).old
          have HK := HK.trans hk2
          go_wp2_with fail
          exact bodyPost_ret (v := .agg #[.int .i64 5, .int .i64 k, .int .i64 (closeN x (l.take T) (k + 1))]) (by simp [results, Try.results14, go_sem, q1]; try omega) rfl ⟨by rw [HV.out, ← HKV.out], ((HK.setCell (Nat.le_refl _) _).setCell (Nat.le_refl _) _).setCell (Nat.le_refl _) _⟩
        · go_enter Try.func14, Try.ntmps14
          go_wp2_with fail
          refine (rspace_any x _).mono ?_
          rintro e w1 ⟨rfl, rfl⟩
          go_wp2_with fail
          refine (rlead_any _ _ _ (l.take T) k _ ((h.to1 hT).kept ((Kept.refl _).alloc _)) (by omega)).mono ?_
          rintro e w1 ⟨rfl, hk1⟩
          obtain ⟨o1, o2, o3⟩ := hk1.old
          rw [Int.toNat_natCast]
          have HK : Kept w w1 := ((Kept.refl _).alloc _).trans hk1
          have hc := HK.cell hc
          go_wp2_with fail
          refine (rquoted_any _ _ _ l k T x _ ((h.kept HK)) hkT hT HX.out hn).mono ?_
          rintro e w2 ⟨rfl, hk2⟩
          rw [HQN.out]
          obtain ⟨p1, p2, p3⟩ := hk2.old
          obtain ⟨q1, q2, q3⟩ := (hk1.trans hk2).old
          have HK := HK.trans hk2
          go_wp2_with fail
          exact bodyPost_ret (v := .agg #[.int .i64 5, .int .i64 k, .int .i64 (closeN x (l.take T) (k + 1))]) (by simp [results, Try.results14, go_sem, q1]; try omega) rfl ⟨by rw [HV.out, ← HKV.out], ((HK.setCell (Nat.le_refl _) _).setCell (Nat.le_refl _) _).setCell (Nat.le_refl _) _⟩
    rw [if_neg c6] at hV0
    cases hq : isQuote x
    · have hq1 : (x == 34) = false := by simp [isQuote] at hq; simpa using hq.1
      have hq2 : (x == 39) = false := by simp [isQuote] at hq; simpa using hq.2
      clear hq hval
      have hSl : ((l.take T).drop k).length = T - k := by have := HL.out; simp; omega
      rcases len_cases _ hhead (by omega) with ⟨u1, u2, u3⟩ | ⟨u1, u2, u3⟩ | ⟨u1, u2, u3⟩ | ⟨u1, u2, u3⟩ | ⟨u1, u2⟩
      · have HV : Hid (pieceF ((l.take T).drop k) (decide (k = F)) = (6, 2)) := by unfold Hid; rw [hV0, if_pos (by simp [u1]), u2]
        have hx47 : x = 47 := by rw [u1] at hhead; simpa using hhead.symm
        have hy := two_get HXT.out u1
        have hT1 : T ≤ k + 2 := by omega
        have hT2 : k + 2 ≤ T := by omega
        have hc62 : w.cell? ⟨b, o + (k + 1), none⟩ = some (.int .i32 62) := h.at1 (by rw [List.getElem?_take_of_lt (by omega)] at hy; exact hy)
        have hx47b : (x == 47) = true := by simpa using hx47
        have hx62b : (x == 62) = false := by rw [hx47]; rfl
        clear hx47
        clear hV0 hhead u1 u2 u3 hy hSl
        rcases D with ⟨e1, e2⟩ | ⟨rfl, d1⟩
        · go_enter Try.func14, Try.ntmps14
          go_wp2_with fail
          refine (rspace_any x _).mono ?_
          rintro e w1 ⟨rfl, rfl⟩
          go_wp2_with fail
          refine (rlead_any _ _ _ (l.take T) k _ ((h.to1 hT).kept ((Kept.refl _).alloc _)) (by omega)).mono ?_
          rintro e w1 ⟨rfl, hk1⟩
          obtain ⟨o1, o2, o3⟩ := hk1.old
          rw [Int.toNat_natCast]
          have HK : Kept w w1 := ((Kept.refl _).alloc _).trans hk1
          have hc := HK.cell hc
          have hc62 := HK.cell hc62
          go_wp2_with fail
          all_goals exact bodyPost_ret (v := .agg #[.int .i64 6, .int .i64 k, .int .i64 T]) (by simp [results, Try.results14, go_sem, o1]; try omega) rfl ⟨by (rw [HV.out]; exact congrArg (fun z => Ending.returned (.agg #[.int .i64 6, .int .i64 k, .int .i64 z])) (by simp; omega)), ((HK.setCell (Nat.le_refl _) _).setCell (Nat.le_refl _) _).setCell (Nat.le_refl _) _⟩
        · go_enter Try.func14, Try.ntmps14
          go_wp2_with fail
          refine (rspace_any x _).mono ?_
          rintro e w1 ⟨rfl, rfl⟩
          go_wp2_with fail
          refine (rlead_any _ _ _ (l.take T) k _ ((h.to1 hT).kept ((Kept.refl _).alloc _)) (by omega)).mono ?_
          rintro e w1 ⟨rfl, hk1⟩
          obtain ⟨o1, o2, o3⟩ := hk1.old
          rw [Int.toNat_natCast]
          have HK : Kept w w1 := ((Kept.refl _).alloc _).trans hk1
          have hc := HK.cell hc
          have hc62 := HK.cell hc62
          go_wp2_with fail
          all_goals exact bodyPost_ret (v := .agg #[.int .i64 6, .int .i64 k, .int .i64 T]) (by simp [results, Try.results14, go_sem, o1]; try omega) rfl ⟨by (rw [HV.out]; exact congrArg (fun z => Ending.returned (.agg #[.int .i64 6, .int .i64 k, .int .i64 z])) (by simp; omega)), ((HK.setCell (Nat.le_refl _) _).setCell (Nat.le_refl _) _).setCell (Nat.le_refl _) _⟩
      · have HV : Hid (pieceF ((l.take T).drop k) (decide (k = F)) = (7, 1)) := by unfold Hid; rw [hV0, if_neg u1]
        have hT1 : T ≤ k + 2 := by omega
        have hT2 : k + 2 ≤ T := by omega
        obtain ⟨y, hy, hno⟩ := two_not (HXT.out) (by rw [List.length_take]; have := HL.out; omega) u1
        have hc62 : w.cell? ⟨b, o + (k + 1), none⟩ = some (.int .i32 y) := h.at1 (by rw [List.getElem?_take_of_lt (by omega)] at hy; exact hy)
        clear hV0 hhead u1 u2 u3 hy hSl
        rcases hno with hno | ⟨hno, hno2⟩
        · rcases D with ⟨e1, e2⟩ | ⟨rfl, d1⟩
          · go_enter Try.func14, Try.ntmps14
            go_wp2_with fail
            refine (rspace_any x _).mono ?_
            rintro e w1 ⟨rfl, rfl⟩
            go_wp2_with fail
            refine (rlead_any _ _ _ (l.take T) k _ ((h.to1 hT).kept ((Kept.refl _).alloc _)) (by omega)).mono ?_
            rintro e w1 ⟨rfl, hk1⟩
            obtain ⟨o1, o2, o3⟩ := hk1.old
            rw [Int.toNat_natCast]
            have HK : Kept w w1 := ((Kept.refl _).alloc _).trans hk1
            have hc := HK.cell hc
            have hc62 := HK.cell hc62
            go_wp2_with fail
            all_goals exact bodyPost_ret (v := .agg #[.int .i64 7, .int .i64 k, .int .i64 (k + 1)]) (by simp [results, Try.results14, go_sem, o1]; try omega) rfl ⟨by (rw [HV.out]; try rfl), ((HK.setCell (Nat.le_refl _) _).setCell (Nat.le_refl _) _).setCell (Nat.le_refl _) _⟩
          · go_enter Try.func14, Try.ntmps14
            go_wp2_with fail
            refine (rspace_any x _).mono ?_
            rintro e w1 ⟨rfl, rfl⟩
            go_wp2_with fail
            refine (rlead_any _ _ _ (l.take T) k _ ((h.to1 hT).kept ((Kept.refl _).alloc _)) (by omega)).mono ?_
            rintro e w1 ⟨rfl, hk1⟩
            obtain ⟨o1, o2, o3⟩ := hk1.old
            rw [Int.toNat_natCast]
            have HK : Kept w w1 := ((Kept.refl _).alloc _).trans hk1
            have hc := HK.cell hc
            have hc62 := HK.cell hc62
            go_wp2_with fail
            all_goals exact bodyPost_ret (v := .agg #[.int .i64 7, .int .i64 k, .int .i64 (k + 1)]) (by simp [results, Try.results14, go_sem, o1]; try omega) rfl ⟨by (rw [HV.out]; try rfl), ((HK.setCell (Nat.le_refl _) _).setCell (Nat.le_refl _) _).setCell (Nat.le_refl _) _⟩
        · rcases D with ⟨e1, e2⟩ | ⟨rfl, d1⟩
          · go_enter Try.func14, Try.ntmps14
            go_wp2_with fail
            refine (rspace_any x _).mono ?_
            rintro e w1 ⟨rfl, rfl⟩
            go_wp2_with fail
            refine (rlead_any _ _ _ (l.take T) k _ ((h.to1 hT).kept ((Kept.refl _).alloc _)) (by omega)).mono ?_
            rintro e w1 ⟨rfl, hk1⟩
            obtain ⟨o1, o2, o3⟩ := hk1.old
            rw [Int.toNat_natCast]
            have HK : Kept w w1 := ((Kept.refl _).alloc _).trans hk1
            have hc := HK.cell hc
            have hc62 := HK.cell hc62
            go_wp2_with fail
            all_goals exact bodyPost_ret (v := .agg #[.int .i64 7, .int .i64 k, .int .i64 (k + 1)]) (by simp [results, Try.results14, go_sem, o1]; try omega) rfl ⟨by (rw [HV.out]; try rfl), ((HK.setCell (Nat.le_refl _) _).setCell (Nat.le_refl _) _).setCell (Nat.le_refl _) _⟩
          · go_enter Try.func14, Try.ntmps14
            go_wp2_with fail
            refine (rspace_any x _).mono ?_
            rintro e w1 ⟨rfl, rfl⟩
            go_wp2_with fail
            refine (rlead_any _ _ _ (l.take T) k _ ((h.to1 hT).kept ((Kept.refl _).alloc _)) (by omega)).mono ?_
            rintro e w1 ⟨rfl, hk1⟩
            obtain ⟨o1, o2, o3⟩ := hk1.old
            rw [Int.toNat_natCast]
            have HK : Kept w w1 := ((Kept.refl _).alloc _).trans hk1
            have hc := HK.cell hc
            have hc62 := HK.cell hc62
            go_wp2_with fail
            all_goals exact bodyPost_ret (v := .agg #[.int .i64 7, .int .i64 k, .int .i64 (k + 1)]) (by simp [results, Try.results14, go_sem, o1]; try omega) rfl ⟨by (rw [HV.out]; try rfl), ((HK.setCell (Nat.le_refl _) _).setCell (Nat.le_refl _) _).setCell (Nat.le_refl _) _⟩
      · have HV : Hid (pieceF ((l.take T).drop k) (decide (k = F)) = (6, 1)) := by unfold Hid; rw [hV0, if_pos (by simp [u1]), u2]
        have hT1 : T ≤ k + 1 := by omega
        clear hV0 hhead u1 u2 hSl
        rcases D with ⟨e1, e2⟩ | ⟨rfl, d1⟩
        · go_enter Try.func14, Try.ntmps14
          go_wp2_with fail
          refine (rspace_any x _).mono ?_
          rintro e w1 ⟨rfl, rfl⟩
          go_wp2_with fail
          refine (rlead_any _ _ _ (l.take T) k _ ((h.to1 hT).kept ((Kept.refl _).alloc _)) (by omega)).mono ?_
          rintro e w1 ⟨rfl, hk1⟩
          obtain ⟨o1, o2, o3⟩ := hk1.old
          rw [Int.toNat_natCast]
          have HK : Kept w w1 := ((Kept.refl _).alloc _).trans hk1
          have hc := HK.cell hc
          go_wp2_with fail
          all_goals exact bodyPost_ret (v := .agg #[.int .i64 6, .int .i64 k, .int .i64 T]) (by simp [results, Try.results14, go_sem, o1]; try omega) rfl ⟨by (rw [HV.out]; exact congrArg (fun z => Ending.returned (.agg #[.int .i64 6, .int .i64 k, .int .i64 z])) (by simp; omega)), ((HK.setCell (Nat.le_refl _) _).setCell (Nat.le_refl _) _).setCell (Nat.le_refl _) _⟩
        · go_enter Try.func14, Try.ntmps14
          go_wp2_with fail
          refine (rspace_any x _).mono ?_
          rintro e w1 ⟨rfl, rfl⟩
          go_wp2_with fail
          refine (rlead_any _ _ _ (l.take T) k _ ((h.to1 hT).kept ((Kept.refl _).alloc _)) (by omega)).mono ?_
          rintro e w1 ⟨rfl, hk1⟩
          obtain ⟨o1, o2, o3⟩ := hk1.old
          rw [Int.toNat_natCast]
          have HK : Kept w w1 := ((Kept.refl _).alloc _).trans hk1
          have hc := HK.cell hc
          go_wp2_with fail
          all_goals exact bodyPost_ret (v := .agg #[.int .i64 6, .int .i64 k, .int .i64 T]) (by simp [results, Try.results14, go_sem, o1]; try omega) rfl ⟨by (rw [HV.out]; exact congrArg (fun z => Ending.returned (.agg #[.int .i64 6, .int .i64 k, .int .i64 z])) (by simp; omega)), ((HK.setCell (Nat.le_refl _) _).setCell (Nat.le_refl _) _).setCell (Nat.le_refl _) _⟩
      · have HV : Hid (pieceF ((l.take T).drop k) (decide (k = F)) = (7, 1)) := by unfold Hid; rw [hV0, if_neg u1]
        have hT1 : T ≤ k + 1 := by omega
        clear hV0 hhead u1 u2 hSl
        rcases D with ⟨e1, e2⟩ | ⟨rfl, d1⟩
        · go_enter Try.func14, Try.ntmps14
          go_wp2_with fail
          refine (rspace_any x _).mono ?_
          rintro e w1 ⟨rfl, rfl⟩
          go_wp2_with fail
          refine (rlead_any _ _ _ (l.take T) k _ ((h.to1 hT).kept ((Kept.refl _).alloc _)) (by omega)).mono ?_
          rintro e w1 ⟨rfl, hk1⟩
          obtain ⟨o1, o2, o3⟩ := hk1.old
          rw [Int.toNat_natCast]
          have HK : Kept w w1 := ((Kept.refl _).alloc _).trans hk1
          have hc := HK.cell hc
          go_wp2_with fail
          all_goals exact bodyPost_ret (v := .agg #[.int .i64 7, .int .i64 k, .int .i64 (k + 1)]) (by simp [results, Try.results14, go_sem, o1]; try omega) rfl ⟨by (rw [HV.out]; try rfl), ((HK.setCell (Nat.le_refl _) _).setCell (Nat.le_refl _) _).setCell (Nat.le_refl _) _⟩
        · go_enter Try.func14, Try.ntmps14
          go_wp2_with fail
          refine (rspace_any x _).mono ?_
          rintro e w1 ⟨rfl, rfl⟩
          go_wp2_with fail
          refine (rlead_any _ _ _ (l.take T) k _ ((h.to1 hT).kept ((Kept.refl _).alloc _)) (by omega)).mono ?_
          rintro e w1 ⟨rfl, hk1⟩
          obtain ⟨o1, o2, o3⟩ := hk1.old
          rw [Int.toNat_natCast]
          have HK : Kept w w1 := ((Kept.refl _).alloc _).trans hk1
          have hc := HK.cell hc
          go_wp2_with fail
          all_goals exact bodyPost_ret (v := .agg #[.int .i64 7, .int .i64 k, .int .i64 (k + 1)]) (by simp [results, Try.results14, go_sem, o1]; try omega) rfl ⟨by (rw [HV.out]; try rfl), ((HK.setCell (Nat.le_refl _) _).setCell (Nat.le_refl _) _).setCell (Nat.le_refl _) _⟩
      · have HV : Hid (pieceF ((l.take T).drop k) (decide (k = F)) = (7, 1)) := by unfold Hid; rw [hV0, if_neg u1]
        have hTk : k + 2 < T := by omega
        clear hV0 hhead u1 u2 hSl
        rcases D with ⟨e1, e2⟩ | ⟨rfl, d1⟩
        · go_enter Try.func14, Try.ntmps14
          go_wp2_with fail
          refine (rspace_any x _).mono ?_
          rintro e w1 ⟨rfl, rfl⟩
          go_wp2_with fail
          refine (rlead_any _ _ _ (l.take T) k _ ((h.to1 hT).kept ((Kept.refl _).alloc _)) (by omega)).mono ?_
          rintro e w1 ⟨rfl, hk1⟩
          obtain ⟨o1, o2, o3⟩ := hk1.old
          rw [Int.toNat_natCast]
          have HK : Kept w w1 := ((Kept.refl _).alloc _).trans hk1
          have hc := HK.cell hc
          go_wp2_with fail
          all_goals exact bodyPost_ret (v := .agg #[.int .i64 7, .int .i64 k, .int .i64 (k + 1)]) (by simp [results, Try.results14, go_sem, o1]; try omega) rfl ⟨by (rw [HV.out]; try rfl), ((HK.setCell (Nat.le_refl _) _).setCell (Nat.le_refl _) _).setCell (Nat.le_refl _) _⟩
        · go_enter Try.func14, Try.ntmps14
          go_wp2_with fail
          refine (rspace_any x _).mono ?_
          rintro e w1 ⟨rfl, rfl⟩
          go_wp2_with fail
          refine (rlead_any _ _ _ (l.take T) k _ ((h.to1 hT).kept ((Kept.refl _).alloc _)) (by omega)).mono ?_
          rintro e w1 ⟨rfl, hk1⟩
          obtain ⟨o1, o2, o3⟩ := hk1.old
          rw [Int.toNat_natCast]
          have HK : Kept w w1 := ((Kept.refl _).alloc _).trans hk1
          have hc := HK.cell hc
          go_wp2_with fail
          all_goals exact bodyPost_ret (v := .agg #[.int .i64 7, .int .i64 k, .int .i64 (k + 1)]) (by simp [results, Try.results14, go_sem, o1]; try omega) rfl ⟨by (rw [HV.out]; try rfl), ((HK.setCell (Nat.le_refl _) _).setCell (Nat.le_refl _) _).setCell (Nat.le_refl _) _⟩
    · have HV : Hid (pieceF ((l.take T).drop k) (decide (k = F)) = (7, 1)) := by
        unfold Hid
        rw [hV0, if_neg (fun e => quote_not hq hhead e)]
      have hx47 : (x == 47) = false := by simp [isQuote] at hq; rcases hq with rfl | rfl <;> rfl
      have hx62 : (x == 62) = false := by simp [isQuote] at hq; rcases hq with rfl | rfl <;> rfl
      rw [hq, if_pos rfl] at hval
      have hc0 : closeN x (l.take T) (k + 1) = 0 := by
        rcases Nat.eq_zero_or_pos (closeN x (l.take T) (k + 1)) with e | e
        · exact e
        · exfalso
          rw [if_neg (by omega)] at hval
          have h1 := closeN_ge x (l.take T) (k + 1)
          omega
      have HQN : Hid (quoN (closeN x (l.take T) (k + 1)) = -1) := by unfold Hid quoN; rw [if_pos hc0]
      have g : (x == 34) = true ∨ ((x == 34) = false ∧ (x == 39) = true) := by
        simp only [isQuote] at hq
        cases h1 : (x == 34)
        · rw [h1] at hq; exact .inr ⟨rfl, by simpa using hq⟩
        · exact .inl rfl
      clear hV0 hhead hval c6 hc0 hq
      rcases g with g1 | ⟨g1, g2⟩
      · rcases D with ⟨e1, e2⟩ | ⟨rfl, d1⟩
        · go_enter Try.func14, Try.ntmps14
          go_wp2_with fail
          refine (rspace_any x _).mono ?_
          rintro e w1 ⟨rfl, rfl⟩
          go_wp2_with fail
          refine (rlead_any _ _ _ (l.take T) k _ ((h.to1 hT).kept ((Kept.refl _).alloc _)) (by omega)).mono ?_
          rintro e w1 ⟨rfl, hk1⟩
          obtain ⟨o1, o2, o3⟩ := hk1.old
          rw [Int.toNat_natCast]
          have HK : Kept w w1 := ((Kept.refl _).alloc _).trans hk1
          have hc := HK.cell hc
          go_wp2_with fail
          refine (rquoted_any _ _ _ l k T x _ ((h.kept HK)) hkT hT HX.out hn).mono ?_
          rintro e w2 ⟨rfl, hk2⟩
          rw [HQN.out]
          obtain ⟨p1, p2, p3⟩ := hk2.old
          obtain ⟨q1, q2, q3⟩ := (hk1.trans hk2).old
          have HK := HK.trans hk2
          have hc := hk2.cell hc
          go_wp2_with fail
          all_goals exact bodyPost_ret (v := .agg #[.int .i64 7, .int .i64 k, .int .i64 (k + 1)]) (by simp [results, Try.results14, go_sem, q1]; try omega) rfl ⟨by (rw [HV.out]; try rfl), ((HK.setCell (Nat.le_refl _) _).setCell (Nat.le_refl _) _).setCell (Nat.le_refl _) _⟩
        · go_enter Try.func14, Try.ntmps14
          go_wp2_with fail
          refine (rspace_any x _).mono ?_
          rintro e w1 ⟨rfl, rfl⟩
          go_wp2_with fail
          refine (rlead_any _ _ _ (l.take T) k _ ((h.to1 hT).kept ((Kept.refl _).alloc _)) (by omega)).mono ?_
          rintro e w1 ⟨rfl, hk1⟩
          obtain ⟨o1, o2, o3⟩ := hk1.old
          rw [Int.toNat_natCast]
          have HK : Kept w w1 := ((Kept.refl _).alloc _).trans hk1
          have hc := HK.cell hc
          go_wp2_with fail
          refine (rquoted_any _ _ _ l k T x _ ((h.kept HK)) hkT hT HX.out hn).mono ?_
          rintro e w2 ⟨rfl, hk2⟩
          rw [HQN.out]
          obtain ⟨p1, p2, p3⟩ := hk2.old
          obtain ⟨q1, q2, q3⟩ := (hk1.trans hk2).old
          have HK := HK.trans hk2
          have hc := hk2.cell hc
          go_wp2_with fail
          all_goals exact bodyPost_ret (v := .agg #[.int .i64 7, .int .i64 k, .int .i64 (k + 1)]) (by simp [results, Try.results14, go_sem, q1]; try omega) rfl ⟨by (rw [HV.out]; try rfl), ((HK.setCell (Nat.le_refl _) _).setCell (Nat.le_refl _) _).setCell (Nat.le_refl _) _⟩
      · rcases D with ⟨e1, e2⟩ | ⟨rfl, d1⟩
        · go_enter Try.func14, Try.ntmps14
          go_wp2_with fail
          refine (rspace_any x _).mono ?_
          rintro e w1 ⟨rfl, rfl⟩
          go_wp2_with fail
          refine (rlead_any _ _ _ (l.take T) k _ ((h.to1 hT).kept ((Kept.refl _).alloc _)) (by omega)).mono ?_
          rintro e w1 ⟨rfl, hk1⟩
          obtain ⟨o1, o2, o3⟩ := hk1.old
          rw [Int.toNat_natCast]
          have HK : Kept w w1 := ((Kept.refl _).alloc _).trans hk1
          have hc := HK.cell hc
          go_wp2_with fail
          refine (rquoted_any _ _ _ l k T x _ ((h.kept HK)) hkT hT HX.out hn).mono ?_
          rintro e w2 ⟨rfl, hk2⟩
          rw [HQN.out]
          obtain ⟨p1, p2, p3⟩ := hk2.old
          obtain ⟨q1, q2, q3⟩ := (hk1.trans hk2).old
          have HK := HK.trans hk2
          have hc := hk2.cell hc
          go_wp2_with fail
          all_goals exact bodyPost_ret (v := .agg #[.int .i64 7, .int .i64 k, .int .i64 (k + 1)]) (by simp [results, Try.results14, go_sem, q1]; try omega) rfl ⟨by (rw [HV.out]; try rfl), ((HK.setCell (Nat.le_refl _) _).setCell (Nat.le_refl _) _).setCell (Nat.le_refl _) _⟩
        · go_enter Try.func14, Try.ntmps14
          go_wp2_with fail
          refine (rspace_any x _).mono ?_
          rintro e w1 ⟨rfl, rfl⟩
          go_wp2_with fail
          refine (rlead_any _ _ _ (l.take T) k _ ((h.to1 hT).kept ((Kept.refl _).alloc _)) (by omega)).mono ?_
          rintro e w1 ⟨rfl, hk1⟩
          obtain ⟨o1, o2, o3⟩ := hk1.old
          rw [Int.toNat_natCast]
          have HK : Kept w w1 := ((Kept.refl _).alloc _).trans hk1
          have hc := HK.cell hc
          go_wp2_with fail
          refine (rquoted_any _ _ _ l k T x _ ((h.kept HK)) hkT hT HX.out hn).mono ?_
          rintro e w2 ⟨rfl, hk2⟩
          rw [HQN.out]
          obtain ⟨p1, p2, p3⟩ := hk2.old
          obtain ⟨q1, q2, q3⟩ := (hk1.trans hk2).old
          have HK := HK.trans hk2
          have hc := hk2.cell hc
          go_wp2_with fail
          all_goals exact bodyPost_ret (v := .agg #[.int .i64 7, .int .i64 k, .int .i64 (k + 1)]) (by simp [results, Try.results14, go_sem, q1]; try omega) rfl ⟨by (rw [HV.out]; try rfl), ((HK.setCell (Nat.le_refl _) _).setCell (Nat.le_refl _) _).setCell (Nat.le_refl _) _⟩
  · have hrun := runF_yes HXT.out hsp
    have HV : Hid (pieceF ((l.take T).drop k) (decide (k = F)) = (3, runF isSpace ((l.take T).drop k))) := by unfold Hid; rw [hV0, if_pos (by omega)]
    clear hV0 hE hhead hrun
    rcases D with ⟨e1, e2⟩ | ⟨rfl, d1⟩
    · go_enter Try.func14, Try.ntmps14
      go_wp2_with fail
      refine (rspace_any x _).mono ?_
      rintro e w1 ⟨rfl, rfl⟩
      go_wp2_with fail
      go_loopw [9] (fun i wr => ∃ m : Nat, k ≤ m ∧ m ≤ T ∧ i = .int .i64 m ∧ wr = w.alloc (.cells #[.int .i64 0, .int .i64 0, .int .i64 0] 31) ∧ Hid (k + runF isSpace ((l.take T).drop k) = m + runF isSpace ((l.take T).drop m))) (fun i _ => T - (intOf i).toNat)
      case atStart => exact ⟨k, Nat.le_refl _, by omega, rfl, rfl, rfl⟩
      case round =>
        obtain ⟨m, hm1, hm, rfl, rfl, hinv⟩ := hrel
        have HK : Kept w (w.alloc (.cells #[.int .i64 0, .int .i64 0, .int .i64 0] 31)) := (Kept.refl _).alloc _
        by_cases hlt : m < T
        · obtain ⟨b2, o2, y, hA, hy, hcy, hby⟩ := h.oneb (k := m) (by omega)
          injection hA with hA
          injection hA with hA1 hA2
          subst hA1 hA2
          have HY := Lib.hid (part1_step hy hlt)
          clear hy
          cases hp : isSpace y
          · go_wp2_with fail
            refine (rspace_any y _).mono ?_
            rintro e w1 ⟨rfl, rfl⟩
            go_wp2_with fail
            exact bodyPost_ret (v := .agg #[.int .i64 3, .int .i64 k, .int .i64 m]) (by simp [results, Try.results14, go_sem]) rfl ⟨by (rw [HV.out]; dsimp only; rw [show (k : Int) + (runF isSpace ((l.take T).drop k) : Nat) = m by have := hinv.out; rw [runF_no HY.out hp] at this; omega]; try rfl), by repeat (first | exact Kept.refl _ | refine Kept.alloc ?_ _)⟩
          · go_wp2_with fail
            refine (rspace_any y _).mono ?_
            rintro e w1 ⟨rfl, rfl⟩
            go_wp2_with fail
            go_roundw
            case rel => exact ⟨m + 1, by omega, by omega, by go_num, by first | rfl | trivial, by unfold Hid; rw [hinv.out, runF_yes HY.out hp]; omega⟩
            case measure => simp [intOf]; omega
        · obtain rfl : m = T := by omega
          go_wp2_with fail
          exact bodyPost_ret (v := .agg #[.int .i64 3, .int .i64 k, .int .i64 m]) (by simp [results, Try.results14, go_sem]) rfl ⟨by (rw [HV.out]; dsimp only; rw [show (k : Int) + (runF isSpace ((l.take m).drop k) : Nat) = m by have := hinv.out; rw [runF_end (l := l.take m) (k := m) (by rw [List.length_take]; omega)] at this; omega]; try rfl), by repeat (first | exact Kept.refl _ | refine Kept.alloc ?_ _)⟩
    · go_enter Try.func14, Try.ntmps14
      go_wp2_with fail
      refine (rspace_any x _).mono ?_
      rintro e w1 ⟨rfl, rfl⟩
      go_wp2_with fail
      go_loopw [9] (fun i wr => ∃ m : Nat, k ≤ m ∧ m ≤ T ∧ i = .int .i64 m ∧ wr = w.alloc (.cells #[.int .i64 0, .int .i64 0, .int .i64 0] 31) ∧ Hid (k + runF isSpace ((l.take T).drop k) = m + runF isSpace ((l.take T).drop m))) (fun i _ => T - (intOf i).toNat)
      case atStart => exact ⟨k, Nat.le_refl _, by omega, rfl, rfl, rfl⟩
      case round =>
        obtain ⟨m, hm1, hm, rfl, rfl, hinv⟩ := hrel
        have HK : Kept w (w.alloc (.cells #[.int .i64 0, .int .i64 0, .int .i64 0] 31)) := (Kept.refl _).alloc _
        by_cases hlt : m < T
        · obtain ⟨b2, o2, y, hA, hy, hcy, hby⟩ := h.oneb (k := m) (by omega)
          injection hA with hA
          injection hA with hA1 hA2
          subst hA1 hA2
          have HY := Lib.hid (part1_step hy hlt)
          clear hy
          cases hp : isSpace y
          · go_wp2_with fail
            refine (rspace_any y _).mono ?_
            rintro e w1 ⟨rfl, rfl⟩
            go_wp2_with fail
            exact bodyPost_ret (v := .agg #[.int .i64 3, .int .i64 k, .int .i64 m]) (by simp [results, Try.results14, go_sem]) rfl ⟨by (rw [HV.out]; dsimp only; rw [show (k : Int) + (runF isSpace ((l.take T).drop k) : Nat) = m by have := hinv.out; rw [runF_no HY.out hp] at this; omega]; try rfl), by repeat (first | exact Kept.refl _ | refine Kept.alloc ?_ _)⟩
          · go_wp2_with fail
            refine (rspace_any y _).mono ?_
            rintro e w1 ⟨rfl, rfl⟩
            go_wp2_with fail
            go_roundw
            case rel => exact ⟨m + 1, by omega, by omega, by go_num, by first | rfl | trivial, by unfold Hid; rw [hinv.out, runF_yes HY.out hp]; omega⟩
            case measure => simp [intOf]; omega
        · obtain rfl : m = T := by omega
          go_wp2_with fail
          exact bodyPost_ret (v := .agg #[.int .i64 3, .int .i64 k, .int .i64 m]) (by simp [results, Try.results14, go_sem]) rfl ⟨by (rw [HV.out]; dsimp only; rw [show (k : Int) + (runF isSpace ((l.take m).drop k) : Nat) = m by have := hinv.out; rw [runF_end (l := l.take m) (k := m) (by rw [List.length_take]; omega)] at this; omega]; try rfl), by repeat (first | exact Kept.refl _ | refine Kept.alloc ?_ _)⟩
end Go.Proofs.Ytbebmmohambngaa
