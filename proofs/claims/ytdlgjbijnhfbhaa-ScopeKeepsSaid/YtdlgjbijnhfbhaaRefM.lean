/- Names' texts, the document's own answer: Name, colon, Plain, Split, Token: walked. -/
import Derived.Test.YtdlgjbijnhfbhaaRefN
namespace Go.Proofs.Ytdlgjbijnhfbhaa
open Go.RowKit
attribute [local go_sem ↓] Go.wp_at_zero Go.wp_at_succ

theorem runesX_pos {s : ByteArray} (h : 0 < s.size) : 0 < (runesX s).length := by
  unfold runesX
  rw [itemsX_cons h]
  simp
theorem runesX_nil {s : ByteArray} (h : s.size = 0) : (runesX s).length = 0 := by
  unfold runesX
  rw [itemsX_end (by omega)]
  rfl
theorem empty_size (s : ByteArray) : (s.toList == []) = decide (s.size = 0) := by
  rw [ByteArray.toList_eq, Bool.eq_iff_iff]
  simp only [beq_iff_eq, decide_eq_true_eq]
  constructor
  · intro h
    have := congrArg List.length h
    simpa using this
  · intro h
    exact List.eq_nil_of_length_eq_zero (by simpa using h)
theorem rname_any (s : ByteArray) (w : World) (hs : s.size ≤ 1000000) : Calls Try.prog 41 #[.string s] w fun e w' => e = .returned (.bool (nameF s)) ∧ Kept w w' := by
  have he := empty_size s
  by_cases h0 : s.size = 0
  · have d1 : (s.toList == []) = true := by rw [he]; simp [h0]
    have hF : nameF s = false := by unfold nameF; rw [runesX_nil h0]; rfl
    rw [hF]
    clear he
    go_enter Try.func41, Try.ntmps41
    go_wp2_with fail
    go_ret
    exact ⟨rfl, Kept.refl _⟩
  · have d1 : (s.toList == []) = false := by rw [he]; simp [h0]
    have hF : nameF s = (leadF (runesX s) == (runesX s).length) := by
      unfold nameF
      rw [show decide (0 < (runesX s).length) = true from by simpa using runesX_pos (s := s) (by omega)]
      rfl
    clear he
    obtain ⟨b, hb⟩ : ∃ b, nameF s = b := ⟨_, rfl⟩
    rw [hb] at hF ⊢
    clear hb
    go_enter Try.func41, Try.ntmps41
    go_wp2_with fail
    refine (rrunes_any s _ hs).mono ?_
    rintro e w1 ⟨VA, VC, rfl, hI, hk1⟩
    go_wp2_with fail
    refine (rlead_any _ _ _ (runesX s) 0 _ hI (Int.le_refl _)).mono ?_
    rintro e w2 ⟨rfl, hk2⟩
    have hE : ((leadF (runesX s) : Int) == ((runesX s).length : Int)) = b := by
      rw [hF, Bool.eq_iff_iff]
      simp only [beq_iff_eq]
      omega
    have HE := Lib.hid hE
    clear hE hF
    go_wp2_with fail
    refine (rrunes_any s _ hs).mono ?_
    rintro e w3 ⟨VA3, VC3, rfl, hI3, hk3⟩
    go_wp2_with fail
    go_ret
    exact ⟨congrArg (fun b => Ending.returned (.bool b)) (by simpa using HE.out), (hk1.trans hk2).trans hk3⟩

theorem idx_yes (c : UInt8) : ∀ (l : List UInt8) (i : Nat), (∀ j, j < i → l[j]? ≠ some c) → l[i]? = some c → Lib.indexByte l c = i
  | [], i, _, h => by simp at h
  | x :: l, 0, _, h => by
    have : x = c := by simpa using h
    rw [Lib.indexByte]
    simp [this]
  | x :: l, i + 1, hn, h => by
    have hx : x ≠ c := fun e => hn 0 (by omega) (by simp [e])
    have ih := idx_yes c l i (fun j hj => by simpa using hn (j + 1) (by omega)) (by simpa using h)
    rw [Lib.indexByte]
    simp [hx, ih]
theorem idx_no (c : UInt8) : ∀ (l : List UInt8), (∀ j, j < l.length → l[j]? ≠ some c) → Lib.indexByte l c = -1
  | [], _ => rfl
  | x :: l, hn => by
    have hx : x ≠ c := fun e => hn 0 (by simp) (by simp [e])
    have ih := idx_no c l (fun j hj => by simpa using hn (j + 1) (by simp; omega))
    rw [Lib.indexByte]
    simp [hx, ih]
theorem at_data {s : ByteArray} {i : Nat} (h : i < s.size) : s.data.toList[i]? = some s[i] := by
  rw [List.getElem?_eq_getElem (show i < s.data.toList.length from h)]
  rfl
theorem colon_any (s : ByteArray) (w : World) (hs : s.size ≤ 1000000) : Calls Try.prog 37 #[.string s] w fun e w' => e = .returned (.int .i64 (colF s)) ∧ Kept w w' := by
  go_enter Try.func37, Try.ntmps37
  go_wp2_with fail
  go_loopw [3] (fun u wr => ∃ i : Nat, i ≤ s.size ∧ u = .int .i64 i ∧ Kept w wr ∧ Hid (∀ j, j < i → s.data.toList[j]? ≠ some 58)) (fun u _ => s.size - (intOf u).toNat)
  case atStart => exact ⟨0, Nat.zero_le _, rfl, Kept.refl _, fun j hj => absurd hj (by omega)⟩
  case round =>
    obtain ⟨i, his, rfl, hk, hinv⟩ := hrel
    by_cases hp : i < s.size
    · have l1 : (0 : Int) ≤ i := by omega
      have l2 : (i : Int) < s.size := by omega
      have wa : IntKind.i64.wrap ((i : Int) + 1) = (i : Int) + 1 := IntWalk.i64_in _ (by omega)
      have had := at_data hp
      by_cases hb : s[i] = 58
      · have hc : colF s = i := idx_yes 58 _ i hinv.out (by rw [had, hb])
        have HC := Lib.hid hc
        have hx : ((s[i].toNat : Int) == 58) = true := by rw [hb]; rfl
        clear hc hb had
        go_wp2_with fail
        all_goals go_ret
        exact ⟨by rw [HC.out]; rfl, hk⟩
      · have hx : ((s[i].toNat : Int) == 58) = false := by
          apply Bool.eq_false_iff.2
          intro e
          have e2 := eq_of_beq e
          exact hb (UInt8.toNat_inj.1 (show s[i].toNat = 58 by omega))
        have hinv2 : Hid (∀ j, j < i + 1 → s.data.toList[j]? ≠ some 58) := by
          intro j hj
          rcases (show j < i ∨ j = i by omega) with h | rfl
          · exact hinv.out j h
          · rw [had]
            simpa using hb
        clear hb had hinv
        go_wp2_with fail
        go_roundw
        case rel => exact ⟨i + 1, hp, by simp, hk, hinv2⟩
        case measure =>
          simp [intOf]
          omega
    · have hc : colF s = -1 := idx_no 58 _ (fun j hj => hinv.out j (by have : s.data.toList.length = s.size := rfl; omega))
      have HC := Lib.hid hc
      have d1 : decide ((i : Int) < s.size) = false := by simp; omega
      clear hc
      go_wp2_with fail
      go_ret
      exact ⟨by rw [HC.out]; rfl, hk⟩
theorem rplain_any (s : ByteArray) (w : World) (hs : s.size ≤ 1000000) : Calls Try.prog 27 #[.string s] w fun e w' => e = .returned (.bool (plainF s)) ∧ Kept w w' := by
  unfold plainF
  obtain ⟨b, hb⟩ : ∃ b, nameF s = b := ⟨_, rfl⟩
  rw [hb]
  go_enter Try.func27, Try.ntmps27
  go_wp2_with fail
  refine (rname_any s _ hs).mono ?_
  rintro e w1 ⟨rfl, hk1⟩
  rw [hb]
  have HB := Lib.hid hb
  clear hb
  cases b
  · go_wp2_with fail
    go_ret
    exact ⟨rfl, hk1⟩
  · go_wp2_with fail
    refine (colon_any s _ hs).mono ?_
    rintro e w2 ⟨rfl, hk2⟩
    go_wp2_with fail
    go_ret
    refine ⟨congrArg (fun b => Ending.returned (.bool b)) ?_, hk1.trans hk2⟩
    rw [Bool.eq_iff_iff]
    simp
end Go.Proofs.Ytdlgjbijnhfbhaa
