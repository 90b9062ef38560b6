/- The document's small functions of scripts: walked. -/
import Derived.Test.YtmcmicgdkdbgjaaDoorScrI
namespace Go.Proofs.YtmcmicgdkdbgjaaDoor
open Go.RowKit
attribute [local go_sem ↓] Go.wp_at_zero Go.wp_at_succ

theorem toBlank_lt {l : Bs} {k : Nat} {b : UInt8} (hk : ∀ j, j < k → l[j]? ≠ some 32) (hb : l[k]? = some b) : (b = 32 → toBlank l = k) := by
  intro h
  subst h
  induction l generalizing k with
  | nil => simp at hb
  | cons c l ih =>
    cases k with
    | zero =>
      have : c = 32 := by simpa using hb
      rw [toBlank, if_pos this]
    | succ k =>
      have hc : c ≠ 32 := fun e => hk 0 (by omega) (by simp [e])
      rw [toBlank, if_neg hc, ih (k := k) (fun j hj => by have := hk (j + 1) (by omega); simpa using this) (by simpa using hb)]
theorem toBlank_all {l : Bs} (h : ∀ j, j < l.length → l[j]? ≠ some 32) : toBlank l = l.length := by
  induction l with
  | nil => rfl
  | cons c l ih =>
    have hc : c ≠ 32 := fun e => h 0 (by simp) (by simp [e])
    rw [toBlank, if_neg hc, ih (fun j hj => by have := h (j + 1) (by simpa using hj); simpa using this)]
    rfl
set_option maxHeartbeats 2000000 in
theorem dblank_any (s : ByteArray) (w : World) (hs : s.size ≤ 1000000) : Calls Tryd.prog 45 #[.string s] w fun e w' => e = .returned (.int .i64 (toBlank s.toList : Int)) ∧ w = w' := by
  obtain ⟨z, hz⟩ : ∃ z, toBlank s.toList = z := ⟨_, rfl⟩
  rw [hz]
  have HZ := Lib.hid hz
  have HL := Lib.hid (bytes_len s)
  clear hz
  go_enter Tryd.func45, Tryd.ntmps45
  go_wp2_with fail
  go_loopw [3] (fun v wr => ∃ k : Nat, k ≤ s.size ∧ v = .int .i64 k ∧ Hid (∀ j, j < k → s.toList[j]? ≠ some 32) ∧ w = wr) (fun v _ => s.size - (intOf v).toNat)
  case atStart => exact ⟨0, Nat.zero_le _, rfl, fun j h => by omega, rfl⟩
  case round =>
    obtain ⟨k, hk, rfl, HK, rfl⟩ := hrel
    by_cases hlt : k < s.size
    · have l1 : (k : Int) < s.size := by omega
      have l2 : (0 : Int) ≤ k := by omega
      have s1 : IntKind.i64.wrap ((k : Int) + 1) = (k : Int) + 1 := IntWalk.i64_in _ (by omega)
      obtain ⟨b, hb⟩ : ∃ b, s[k]'hlt = b := ⟨_, rfl⟩
      have hget : s.toList[k]? = some b := by rw [bytes_get hlt, hb]
      by_cases h : b = 32
      · have d1 : ((b.toNat : Int) == 32) = true := by rw [h]; rfl
        have HE : Hid (k = z) := by rw [← HZ.out]; exact (toBlank_lt HK.out hget h).symm
        clear hget h
        go_wp2_with fail
        go_ret
        exact ⟨ret_int (by rw [HE.out]), rfl⟩
      · have d1 : ((b.toNat : Int) == 32) = false := by
          rw [Bool.eq_false_iff]
          intro e
          have := beq_iff_eq.1 e
          exact h (UInt8.toNat_inj.1 (by show _ = 32; omega))
        have HN : Hid (∀ j, j < k + 1 → s.toList[j]? ≠ some 32) := by
          intro j hj
          rcases Nat.lt_or_ge j k with h1 | h1
          · exact HK.out j h1
          · have : j = k := by omega
            rw [this, hget]
            intro e
            exact h (Option.some.inj e)
        clear hget h
        go_wp2_with fail
        go_roundw
        case rel => exact ⟨k + 1, hlt, by go_num, HN, by trivial⟩
        case measure =>
          simp [intOf]
          omega
    · have l1 : ¬ (k : Int) < s.size := by omega
      have HE : Hid (s.size = z) := by
        rw [← HZ.out, toBlank_all (fun j hj => HK.out j (by rw [HL.out] at hj; omega)), HL.out]
        rfl
      go_wp2_with fail
      go_ret
      exact ⟨ret_int (by rw [HE.out]), rfl⟩
def strV (b : Bs) : Value := .string (strB b)
theorem words_any (w : World) : Calls Tryd.prog 39 #[] w fun e w' => e = .returned (.slice (some ⟨w.heap.size, 0, none⟩) 10 10) ∧ Sl w' 1 (some ⟨w.heap.size, 0, none⟩) 10 10 (wordsL.map strV) ∧ Kept w w' := by
  go_enter Tryd.func39, Tryd.ntmps39
  go_wp2_with fail
  go_ret
  exact ⟨rfl, Sl.lit1 (l := wordsL) (enc := strV) rfl rfl (by omega), (Kept.refl _).alloc _⟩
theorem signs_any (w : World) : Calls Tryd.prog 37 #[] w fun e w' => e = .returned (.slice (some ⟨w.heap.size, 0, none⟩) 10 10) ∧ Sl w' 1 (some ⟨w.heap.size, 0, none⟩) 10 10 (signsL.map strV) ∧ Kept w w' := by
  go_enter Tryd.func37, Tryd.ntmps37
  go_wp2_with fail
  go_ret
  exact ⟨rfl, Sl.lit1 (l := signsL) (enc := strV) rfl rfl (by omega), (Kept.refl _).alloc _⟩
theorem kind_word {W : Bs} {k : Nat} (h : kindF W = k) (h1 : 1 ≤ k) : wordOf k = W ∧ k ≤ 9 := by
  unfold kindF at h
  split at h
  · omega
  · cases hf : wordsL.findIdx? (· == W) with
    | none => rw [hf] at h; simp at h; omega
    | some j =>
      rw [hf] at h
      have h : j = k := h
      subst h
      obtain ⟨hj, hp, _⟩ := List.findIdx?_eq_some_iff_getElem.1 hf
      refine ⟨?_, by have : j < 10 := hj; omega⟩
      unfold wordOf
      rw [List.getD_eq_getElem?_getD, List.getElem?_eq_getElem hj]
      simpa using hp
/-- The kind that is found among the first words. -/
def kfnd (W : Bs) (i : Nat) : Nat := if kindF W < i then kindF W else 0
theorem kfnd_hit {W : Bs} {i : Nat} (h1 : 1 ≤ i) (h9 : i ≤ 9) (h : wordOf i = W) : kfnd W (i + 1) = i := by
  have := kind_hit i h1 h9
  rw [h] at this
  unfold kfnd
  rw [this, if_pos (by omega)]
theorem kfnd_miss {W : Bs} {i : Nat} (h : i = 0 ∨ wordOf i ≠ W) : kfnd W (i + 1) = kfnd W i := by
  unfold kfnd
  have hne : i = 0 ∨ kindF W ≠ i := by
    rcases h with h | h
    · exact .inl h
    · rcases Nat.eq_zero_or_pos i with h0 | h0
      · exact .inl h0
      · exact .inr fun e => h (kind_word e h0).1
  by_cases h1 : kindF W < i
  · rw [if_pos h1, if_pos (by omega)]
  · rw [if_neg h1]
    split
    · rcases hne with h0 | h0
      · omega
      · omega
    · rfl
theorem kfnd_all (W : Bs) : kfnd W 10 = kindF W := by
  unfold kfnd
  rcases Nat.eq_zero_or_pos (kindF W) with h | h
  · rw [h]
    rfl
  · rw [if_pos (by have := (kind_word rfl h).2; omega)]
end Go.Proofs.YtmcmicgdkdbgjaaDoor
