/- Names' texts: the document's Split and Token, the program's Join: walked. -/
import Derived.Test.YtpajcjcbfabcnaaRefM
namespace Go.Proofs.Ytpajcjcbfabcnaa
open Go.RowKit
attribute [local go_sem ↓] Go.wp_at_zero Go.wp_at_succ

theorem rtoken_any (s : ByteArray) (w : World) (hs : s.size ≤ 1000000) : Calls Try.prog 18 #[.string s] w fun e w' => e = .returned (.bool (tokenF s)) ∧ Kept w w' := by
  have hlen := runesX_len s
  obtain ⟨b, hb⟩ : ∃ b, (s.toList == []) = b := ⟨_, rfl⟩
  obtain ⟨T, hT⟩ : ∃ T, tokenF s = T := ⟨_, rfl⟩
  have hT2 := hT
  unfold tokenF at hT2
  rw [hb] at hT2
  rw [hT]
  clear hT
  go_enter Try.func18, Try.ntmps18
  go_wp2_with fail
  refine (rrunes_any s _ hs).mono ?_
  rintro e w1 ⟨VA, VC, rfl, hI, hk1⟩
  obtain ⟨L, hL⟩ : ∃ L, runesX s = L := ⟨_, rfl⟩
  rw [hL] at hI hT2 hlen ⊢
  clear hL
  obtain ⟨N, hN⟩ : ∃ N, L.length = N := ⟨_, rfl⟩
  rw [hN] at hI hT2 hlen ⊢
  have HN := Lib.hid hN
  have HT := Lib.hid hT2
  have HB := Lib.hid hb
  clear hN hT2 hb
  have hcap := hI.cap
  have hmax := hI.max
  go_wp2_with fail
  go_loopw [8] (fun u wr => ∃ k : Nat, k ≤ N ∧ u = .int .i64 k ∧ Kept w1 wr ∧ Hid (runF nameChar L = k + runF nameChar (L.drop k))) (fun u _ => N - (intOf u).toNat)
  case atStart => exact ⟨0, Nat.zero_le _, rfl, Kept.refl _, by unfold Hid; simp⟩
  case round =>
    obtain ⟨k, hkN, rfl, hk, hinv⟩ := hrel
    by_cases hlt : k < N
    · obtain ⟨b2, o, x, rfl, hx, x0, hb2⟩ := (hI.kept hk).oneb (k := k) hlt
      have l1 : (0 : Int) ≤ k := by omega
      have l2 : (k : Int) < N := by omega
      have wa : IntKind.i64.wrap ((k : Int) + 1) = (k : Int) + 1 := IntWalk.i64_in _ (by omega)
      go_wp2_with fail
      refine (rnameChar_any x _).mono ?_
      rintro e w2 ⟨rfl, rfl⟩
      by_cases hc : nameChar x = true
      · have HY := Lib.hid (runF_yes hx hc)
        rw [hc]
        clear hx
        go_wp2_with fail
        go_roundw
        case rel =>
          refine ⟨k + 1, hlt, by simp, by first | exact hk | exact hk.alloc _, ?_⟩
          unfold Hid
          rw [hinv.out, HY.out]
          omega
        case measure =>
          simp [intOf]
          omega
      · have hcf : nameChar x = false := by simpa using hc
        have hf := runF_no hx hcf
        have hTf : T = false := by
          rw [← HT.out, hinv.out, hf]
          have : ((k + 0 : Nat) : Int) ≠ (N : Int) := by omega
          simp [this]
          omega
        subst hTf
        rw [hcf]
        clear hx hf
        go_wp2_with fail
        go_ret
        exact ⟨rfl, by first | exact hk1.trans hk | exact (hk1.trans hk).alloc _⟩
    · have hkk : k = N := by omega
      have d1 : decide ((k : Int) < N) = false := by simp; omega
      have hend : T = !b := by
        rw [← HT.out, hinv.out, runF_end (by have := HN.out; omega), hkk]
        simp
      have hbb := HB.out
      clear hinv
      go_wp2_with fail
      go_ret
      refine ⟨?_, hk1.trans hk⟩
      rw [hend, ← hbb]
      rfl
theorem rsplit_any (s : ByteArray) (w : World) (hs : s.size ≤ 1000000) : Calls Try.prog 20 #[.string s] w fun e w' => e = .returned (.tuple #[.string (splitF s).1, .string (splitF s).2.1, .bool (splitF s).2.2]) ∧ Kept w w' := by
  have hlt := colF_lt s
  by_cases h0 : 0 ≤ colF s
  · have hcut : cutF s = (s.extract 0 (colF s).toNat, s.extract ((colF s).toNat + 1) s.size, true) := by unfold cutF; rw [if_pos h0]
    have hS : splitF s = if plainF (s.extract 0 (colF s).toNat) && plainF (s.extract ((colF s).toNat + 1) s.size) then (s.extract 0 (colF s).toNat, s.extract ((colF s).toNat + 1) s.size, true) else (⟨#[]⟩, ⟨#[]⟩, false) := by
      unfold splitF
      rw [hcut]
      rfl
    rw [hS]
    obtain ⟨k, hk⟩ := Int.eq_ofNat_of_zero_le h0
    rw [hk] at hlt ⊢
    have HK := Lib.hid hk
    rw [Int.toNat_natCast]
    have w3 : IntKind.i64.wrap ((k : Int) + 1) = (k : Int) + 1 := IntWalk.i64_in _ (by omega)
    have l1 : (0 : Int) ≤ k := by omega
    have l2 : (k : Int) ≤ s.size := by omega
    have l3 : (k : Int) + 1 ≤ s.size := by omega
    have l5 : (0 : Int) ≤ (k : Int) + 1 := by omega
    have l4 : ((k : Int) + 1).toNat = k + 1 := by omega
    have d0 : decide ((k : Int) < 0) = false := by simp
    have d1 : decide ((0 : Int) ≤ k) = true := by simp
    obtain ⟨P, hP⟩ : ∃ P, s.extract 0 k = P := ⟨_, rfl⟩
    obtain ⟨L, hL⟩ : ∃ L, s.extract (k + 1) s.size = L := ⟨_, rfl⟩
    have hPs : P.size ≤ 1000000 := by rw [← hP]; exact Nat.le_trans (extract_size _ _ _) hs
    have hLs : L.size ≤ 1000000 := by rw [← hL]; exact Nat.le_trans (extract_size _ _ _) hs
    rw [hP, hL]
    clear hS hcut hk h0 hlt
    cases hp : plainF P
    · go_enter Try.func20, Try.ntmps20
      go_wp2_with fail
      refine (colon_any s _ hs).mono ?_
      rintro e w1 ⟨rfl, hk1⟩
      rw [HK.out]
      go_wp2_with fail
      refine (rplain_any P _ hPs).mono ?_
      rintro e w2 ⟨rfl, hk2⟩
      rw [hp]
      go_wp2_with fail
      refine bodyPost_ret (v := .tuple #[.string ⟨#[]⟩, .string ⟨#[]⟩, .bool false]) ?_ rfl ⟨rfl, hk1.trans hk2⟩
      simp [results, Try.results20, go_sem]
    · cases hl : plainF L
      · go_enter Try.func20, Try.ntmps20
        go_wp2_with fail
        refine (colon_any s _ hs).mono ?_
        rintro e w1 ⟨rfl, hk1⟩
        rw [HK.out]
        go_wp2_with fail
        refine (rplain_any P _ hPs).mono ?_
        rintro e w2 ⟨rfl, hk2⟩
        rw [hp]
        go_wp2_with fail
        refine (rplain_any L _ hLs).mono ?_
        rintro e w3 ⟨rfl, hk3⟩
        rw [hl]
        go_wp2_with fail
        refine bodyPost_ret (v := .tuple #[.string ⟨#[]⟩, .string ⟨#[]⟩, .bool false]) ?_ rfl ⟨rfl, (hk1.trans hk2).trans hk3⟩
        simp [results, Try.results20, go_sem]
      · go_enter Try.func20, Try.ntmps20
        go_wp2_with fail
        refine (colon_any s _ hs).mono ?_
        rintro e w1 ⟨rfl, hk1⟩
        rw [HK.out]
        go_wp2_with fail
        refine (rplain_any P _ hPs).mono ?_
        rintro e w2 ⟨rfl, hk2⟩
        rw [hp]
        go_wp2_with fail
        refine (rplain_any L _ hLs).mono ?_
        rintro e w3 ⟨rfl, hk3⟩
        rw [hl]
        go_wp2_with fail
        go_quiet (fail)
        all_goals go_wp2_with fail
        all_goals refine bodyPost_ret (v := .tuple #[.string P, .string L, .bool true]) ?_ rfl ⟨rfl, by repeat (first | (with_reducible exact (hk1.trans hk2).trans hk3) | (with_reducible refine Kept.drewN ?_ _) | (with_reducible refine Kept.drew ?_))⟩
        all_goals simp [results, Try.results20, go_sem]
  · have hcut : cutF s = (s, ⟨#[]⟩, false) := by unfold cutF; rw [if_neg h0]
    have hS : splitF s = if plainF s then (⟨#[]⟩, s, true) else (⟨#[]⟩, ⟨#[]⟩, false) := by
      unfold splitF
      rw [hcut]
      rfl
    rw [hS]
    have d0 : decide (colF s < 0) = true := by simp; omega
    have d1 : decide (0 ≤ colF s) = false := by simp; omega
    clear hS hcut
    cases hp : plainF s
    · go_enter Try.func20, Try.ntmps20
      go_wp2_with fail
      refine (colon_any s _ hs).mono ?_
      rintro e w1 ⟨rfl, hk1⟩
      go_wp2_with fail
      refine (rplain_any s _ hs).mono ?_
      rintro e w2 ⟨rfl, hk2⟩
      rw [hp]
      go_wp2_with fail
      refine bodyPost_ret (v := .tuple #[.string ⟨#[]⟩, .string ⟨#[]⟩, .bool false]) ?_ rfl ⟨rfl, hk1.trans hk2⟩
      simp [results, Try.results20, go_sem]
    · go_enter Try.func20, Try.ntmps20
      go_wp2_with fail
      refine (colon_any s _ hs).mono ?_
      rintro e w1 ⟨rfl, hk1⟩
      go_wp2_with fail
      refine (rplain_any s _ hs).mono ?_
      rintro e w2 ⟨rfl, hk2⟩
      rw [hp]
      go_wp2_with fail
      refine bodyPost_ret (v := .tuple #[.string ⟨#[]⟩, .string s, .bool true]) ?_ rfl ⟨rfl, hk1.trans hk2⟩
      simp [results, Try.results20, go_sem]
/-- The name of two parts. -/
def joinF (p l : ByteArray) : ByteArray := if p.size = 0 then l else p ++ (⟨#[58]⟩ : ByteArray) ++ l
theorem join_any (p l : ByteArray) (w : World) (h1 : p.size ≤ 1000000) (h2 : l.size ≤ 1000000) : Calls Try.prog 21 #[.string p, .string l] w fun e w' => e = .returned (.string (joinF p l)) ∧ Kept w w' := by
  have he := empty_size p
  by_cases h0 : p.size = 0
  · have d1 : (p.toList == []) = true := by rw [he]; simp [h0]
    have hF : joinF p l = l := by unfold joinF; rw [if_pos h0]
    rw [hF]
    clear he
    go_enter Try.func21, Try.ntmps21
    go_wp2_with fail
    go_ret
    exact ⟨rfl, Kept.refl _⟩
  · have d1 : (p.toList == []) = false := by rw [he]; simp [h0]
    have hF : joinF p l = p ++ (⟨#[58]⟩ : ByteArray) ++ l := by unfold joinF; rw [if_neg h0]
    rw [hF]
    clear he hF
    go_enter Try.func21, Try.ntmps21
    go_wp2_with fail
    go_ret
    exact ⟨rfl, by first | exact Kept.refl _ | exact (Kept.refl _).drew⟩
end Go.Proofs.Ytpajcjcbfabcnaa
