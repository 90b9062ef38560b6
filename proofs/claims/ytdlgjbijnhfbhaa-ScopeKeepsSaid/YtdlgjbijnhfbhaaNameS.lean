/- The laws NameIs, NameSplit, NameJoin, walked. -/
import Derived.Test.YtdlgjbijnhfbhaaRefS
namespace Go.Proofs.Ytdlgjbijnhfbhaa
open Go.RowKit
attribute [local go_sem ↓] Go.wp_at_zero Go.wp_at_succ

theorem ba_ext {a b : ByteArray} (h : a.data.toList = b.data.toList) : a = b := by
  cases a
  cases b
  congr
  exact Array.toList_inj.1 h
theorem ba_len (s : ByteArray) : s.data.toList.length = s.size := rfl
theorem ba_app (a b : ByteArray) : (a ++ b).data.toList = a.data.toList ++ b.data.toList := by simp [ByteArray.data_append]
theorem ba_cut (s : ByteArray) (i j : Nat) : (s.extract i j).data.toList = (s.data.toList.drop i).take (j - i) := by
  rw [ByteArray.data_extract, Array.toList_extract]
theorem idx_hit (c : UInt8) : ∀ (l : List UInt8) (k : Nat), Lib.indexByte l c = k → l[k]? = some c
  | [], k, h => by
    rw [Lib.indexByte] at h
    omega
  | x :: l, k, h => by
    rw [Lib.indexByte] at h
    by_cases hx : x = c
    · simp [hx] at h
      have : k = 0 := by omega
      simp [this, hx]
    · have ih := idx_hit c l
      simp [hx] at h
      split at h
      · omega
      · have hk : Lib.indexByte l c = ((k - 1 : Nat) : Int) := by omega
        obtain ⟨m, rfl⟩ : ∃ m, k = m + 1 := ⟨k - 1, by omega⟩
        simpa using ih m (by simpa using hk)
theorem idx_none (c : UInt8) (l : List UInt8) (h : ¬ 0 ≤ Lib.indexByte l c) : ∀ j : Nat, l[j]? ≠ some c := by
  intro j hj
  have hy : ∀ (n : Nat) (l : List UInt8), l[n]? = some c → 0 ≤ Lib.indexByte l c := by
    intro n
    induction n with
    | zero =>
      intro l hl
      cases l with
      | nil => simp at hl
      | cons x l =>
        have : x = c := by simpa using hl
        rw [Lib.indexByte]
        simp [this]
    | succ n ih =>
      intro l hl
      cases l with
      | nil => simp at hl
      | cons x l =>
        have h2 := ih l (by simpa using hl)
        rw [Lib.indexByte]
        by_cases hx : x = c
        · simp [hx]
        · simp [hx]
          split <;> omega
  exact h (hy j l hj)
theorem plain_parts {s : ByteArray} (h : plainF s = true) : s.size ≠ 0 ∧ ∀ j : Nat, s.data.toList[j]? ≠ some 58 := by
  unfold plainF at h
  rw [Bool.and_eq_true] at h
  obtain ⟨h1, h2⟩ := h
  refine ⟨fun e => ?_, idx_none 58 _ (fun hc => by simp [colF, hc] at h2)⟩
  unfold nameF at h1
  rw [runesX_nil e] at h1
  simp at h1
theorem empty_eq {p : ByteArray} (h : p.size = 0) : p = ⟨#[]⟩ := by
  apply ba_ext
  have : p.data.toList.length = 0 := h
  rw [List.eq_nil_of_length_eq_zero this]
theorem split_size (s : ByteArray) : (splitF s).1.size ≤ s.size ∧ (splitF s).2.1.size ≤ s.size := by
  have hc := cut_size s
  have he : (⟨#[]⟩ : ByteArray).size = 0 := rfl
  unfold splitF
  split
  · split
    · exact hc
    · exact ⟨by rw [he]; omega, by rw [he]; omega⟩
  · split
    · exact ⟨by rw [he]; omega, Nat.le_refl _⟩
    · exact ⟨by rw [he]; omega, by rw [he]; omega⟩
theorem split_join {s : ByteArray} (h : (splitF s).2.2 = true) : joinF (splitF s).1 (splitF s).2.1 = s := by
  have hlt := colF_lt s
  by_cases h0 : 0 ≤ colF s
  · have hcut : cutF s = (s.extract 0 (colF s).toNat, s.extract ((colF s).toNat + 1) s.size, true) := by unfold cutF; rw [if_pos h0]
    obtain ⟨k, hk⟩ := Int.eq_ofNat_of_zero_le h0
    have hS : splitF s = if plainF (s.extract 0 k) && plainF (s.extract (k + 1) s.size) then (s.extract 0 k, s.extract (k + 1) s.size, true) else (⟨#[]⟩, ⟨#[]⟩, false) := by
      unfold splitF
      rw [hcut, hk]
      rfl
    rw [hS] at h ⊢
    split at h
    · rename_i hp
      rw [if_pos hp]
      rw [Bool.and_eq_true] at hp
      obtain ⟨p0, _⟩ := plain_parts hp.1
      unfold joinF
      rw [if_neg p0]
      apply ba_ext
      have hh := idx_hit 58 s.data.toList k hk
      rw [ba_app, ba_app, ba_cut, ba_cut]
      have hl := ba_len s
      have e1 : s.data.toList.drop k = 58 :: s.data.toList.drop (k + 1) := drop_get hh
      rw [Nat.sub_zero, List.drop_zero, List.take_of_length_le (l := s.data.toList.drop (k + 1)) (by rw [List.length_drop]; omega), List.append_assoc]
      show s.data.toList.take k ++ ([58] ++ s.data.toList.drop (k + 1)) = s.data.toList
      rw [List.singleton_append, ← e1, List.take_append_drop]
    · cases h
  · have hcut : cutF s = (s, ⟨#[]⟩, false) := by unfold cutF; rw [if_neg h0]
    have hS : splitF s = if plainF s then (⟨#[]⟩, s, true) else (⟨#[]⟩, ⟨#[]⟩, false) := by
      unfold splitF
      rw [hcut]
      rfl
    rw [hS] at h ⊢
    split at h
    · rename_i hp
      rw [if_pos hp]
      rfl
    · cases h
theorem join_split {p l : ByteArray} (hl : plainF l = true) (hp : p.size = 0 ∨ plainF p = true) : splitF (joinF p l) = (p, l, true) := by
  obtain ⟨l0, ln⟩ := plain_parts hl
  by_cases h0 : p.size = 0
  · have hc : ¬ 0 ≤ colF l := by
      rw [show colF l = -1 from idx_no 58 _ (fun j _ => ln j)]
      omega
    have hj : joinF p l = l := by unfold joinF; rw [if_pos h0]
    rw [hj]
    unfold splitF cutF
    rw [if_neg hc]
    rw [hl, empty_eq h0]
    rfl
  · have hpp : plainF p = true := by rcases hp with h | h
                                     · exact absurd h h0
                                     · exact h
    obtain ⟨_, pn⟩ := plain_parts hpp
    have hj : joinF p l = p ++ (⟨#[58]⟩ : ByteArray) ++ l := by unfold joinF; rw [if_neg h0]
    rw [hj]
    have hd : (p ++ (⟨#[58]⟩ : ByteArray) ++ l).data.toList = p.data.toList ++ (58 :: l.data.toList) := by
      rw [ba_app, ba_app, List.append_assoc]
      rfl
    have hpl := ba_len p
    have hc : colF (p ++ (⟨#[58]⟩ : ByteArray) ++ l) = (p.size : Nat) := by
      unfold colF
      rw [hd]
      apply idx_yes
      · intro j hj
        rw [List.getElem?_append_left (by omega)]
        exact pn j
      · rw [List.getElem?_append_right (by omega), hpl, Nat.sub_self]
        rfl
    have e1 : (p ++ (⟨#[58]⟩ : ByteArray) ++ l).extract 0 p.size = p := by
      apply ba_ext
      rw [ba_cut, hd, List.drop_zero, Nat.sub_zero, ← hpl, List.take_left]
    have e2 : (p ++ (⟨#[58]⟩ : ByteArray) ++ l).extract (p.size + 1) (p ++ (⟨#[58]⟩ : ByteArray) ++ l).size = l := by
      apply ba_ext
      have hls := ba_len (p ++ (⟨#[58]⟩ : ByteArray) ++ l)
      rw [hd, List.length_append, List.length_cons] at hls
      rw [ba_cut, hd, ← hls, ← hpl]
      rw [show p.data.toList.length + 1 = (p.data.toList ++ [58]).length by simp, show p.data.toList ++ 58 :: l.data.toList = (p.data.toList ++ [58]) ++ l.data.toList by simp, List.drop_left]
      apply List.take_of_length_le
      simp
      omega
    have h0c : 0 ≤ colF (p ++ (⟨#[58]⟩ : ByteArray) ++ l) := by rw [hc]; omega
    unfold splitF cutF
    rw [if_pos h0c, hc, Int.toNat_natCast, e1, e2]
    simp [hl, hpp]

end Go.Proofs.Ytdlgjbijnhfbhaa
