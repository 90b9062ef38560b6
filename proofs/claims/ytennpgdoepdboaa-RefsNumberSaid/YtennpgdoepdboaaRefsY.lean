/- The document's Bytes (layer 1), Number (layer 14): walked. -/
import Derived.Test.YtennpgdoepdboaaRefsJ
namespace Go.Proofs.Ytennpgdoepdboaa
open Go.RowKit
attribute [local go_sem ↓] Go.wp_at_zero Go.wp_at_succ

set_option maxHeartbeats 2000000 in
theorem rbytes_any (A : Option Addr) (n c : Nat) (l : List Int) (w : World) (h : Sl w 1 A n c (l.map (Value.int .i32))) (hn : n ≤ 1000000) (hv : ∀ x ∈ l, Vr x) :
    Calls Try.prog 29 #[.slice A n c] w fun e w' => ∃ VA VC, e = .returned (.slice VA (l.flatMap encF).length VC) ∧ Sl w' 1 VA (l.flatMap encF).length VC ((l.flatMap encF).map (Value.int .u8)) ∧ Kept w w' := by
  have hcap := h.cap
  have hmax := h.max
  have HL := Lib.hid h.llen1
  have HV := Lib.hid hv
  clear hv
  go_enter Try.func29, Try.ntmps29
  go_wp2_with fail
  go_loopw [3, 8] (fun v u wr => ∃ k : Nat, k ≤ n ∧ u = .int .i64 k ∧ wr.ownsRow w.heap.size 5 1 v ((l.take k).flatMap encF).length (((l.take k).flatMap encF).map (Value.int .u8)) ∧ Kept w wr) (fun _ u _ => n - (intOf u).toNat)
  case atStart => exact ⟨0, Nat.zero_le _, rfl, World.ownsRow_nil _ _ _ _, Kept.refl _⟩
  case round =>
    obtain ⟨k, hkn, rfl, hown, hk⟩ := hrel
    by_cases hlt : k < n
    · obtain ⟨b, o, x, rfl, hx, hc, hb⟩ := (h.kept hk).oneb (k := k) hlt
      have hvx := HV.out x (List.mem_of_getElem? hx)
      have HSN := Lib.hid (encs_snoc hx)
      have hlen := encs_len (l.take k)
      rw [List.length_take] at hlen
      have hel := encF_len4 x
      have hru := fun w' => rune_any x w' (by rcases hvx with h | h <;> omega) (by rcases hvx with h | h <;> omega)
      have HRU := Lib.hid hru
      obtain ⟨X, hX⟩ : ∃ X, (l.take k).flatMap encF = X := ⟨_, rfl⟩
      rw [hX] at hown HSN hlen
      clear hx hru hX hvx
      go_wp2_with fail
      refine (HRU.out _).mono ?_
      rintro e w1 ⟨A5, c5, rfl, hs5, k1⟩
      have hk1 := hk.trans k1
      have hown1 := own_kept hown k1
      have hsz := hk1.size
      clear hown k1
      go_wp2_with (at_builtin; refine wpList_app (by rfl) _ _ (by rfl) appT_by (by rfl) hown1 (by rfl) hs5 ?_ ?_ ?_ ?_; (exact ints_one _ _); (omega); (omega); (intro v' w' hown' hgr hob))
      rw [← List.map_append, ← List.length_append, ← HSN.out] at hown'
      have hk3 : Kept w w' := hk1.grown hgr (fun k e => by have := hown1.lt k e; omega)
      clear hown1 hgr hob
      go_roundw
      case rel => exact ⟨k + 1, hlt, by simp, hown', hk3⟩
      case measure =>
        simp [intOf]
        omega
    · have hkk : k = n := by omega
      have d1 : decide ((k : Int) < n) = false := by simp; omega
      rw [hkk, List.take_of_length_le (by have := HL.out; omega)] at hown
      obtain ⟨VA, VC, rfl, hVs⟩ := own_sl hown
      go_wp2_with fail
      go_ret
      exact ⟨VA, VC, rfl, hVs, hk⟩
theorem worth_top (base : Int) (h1 : 1 ≤ base) : ∀ (s : List Int) (v : Int), 1114112 ≤ v → worthF base (min v 1114112) s = 1114112
  | [], v, h => by
    rw [worthF]
    omega
  | x :: s, v, h => by
    have hb := hexV_bd x
    have hm : min v 1114112 = 1114112 := by omega
    rw [worthF, hm]
    have h2 : 1114112 * 1 ≤ 1114112 * base := Int.mul_le_mul_of_nonneg_left h1 (by omega)
    exact worth_top base h1 s _ (by omega)
theorem isChar_top : isChar 1114112 = false := by decide
theorem all_run {p : Int → Bool} : ∀ (s : List Int) (m : Nat), m ≤ runF p s → ∀ x ∈ s.take m, p x = true
  | [], m, _, x, hx => by
    rw [List.take_nil] at hx
    cases hx
  | y :: s, 0, _, x, hx => by
    rw [List.take_zero] at hx
    cases hx
  | y :: s, m + 1, h, x, hx => by
    unfold runF at h
    rw [List.takeWhile_cons] at h
    split at h
    · rename_i hp
      rw [List.take_succ_cons] at hx
      rcases List.mem_cons.1 hx with rfl | hx
      · exact hp
      · exact all_run s m (by unfold runF; simp at h; omega) x hx
    · simp at h
/-- The digits of a whole reference by number. -/
theorem refT_digits {s : List Int} (h1 : (refT s).1 = 3) (h2 : (refT s).2 = s.length) :
    (s[2]? = some 120 → ∀ x ∈ (s.drop 3).take (s.length - 1 - 3), hexB x = true) ∧ (s[2]? ≠ some 120 → ∀ x ∈ (s.drop 2).take (s.length - 1 - 2), digB x = true) := by
  unfold refT at h1 h2
  by_cases h35 : s[1]? = some 35
  · rw [if_pos h35] at h1 h2
    by_cases h120 : s[2]? = some 120
    · rw [if_pos h120] at h1 h2
      refine ⟨fun _ => ?_, fun h => absurd h120 h⟩
      split at h1
      · rename_i hc
        rw [if_pos hc] at h2
        dsimp only at h2
        exact all_run _ _ (by omega)
      · cases h1
    · rw [if_neg h120] at h1 h2
      refine ⟨fun h => absurd h h120, fun _ => ?_⟩
      split at h1
      · rename_i hc
        rw [if_pos hc] at h2
        dsimp only at h2
        exact all_run _ _ (by omega)
      · cases h1
  · rw [if_neg h35] at h1
    split at h1 <;> cases h1
theorem rdig_hex {x : Int} (h : hexB x = true) : rDig x 16 = hexV x := by
  simp [hexB, digB] at h
  simp [rDig, hexV, digV]
  omega
theorem rdig_dig {x : Int} (h : digB x = true) : rDig x 10 = hexV x := by
  simp [digB] at h
  simp [rDig, hexV, digV]
  omega
end Go.Proofs.Ytennpgdoepdboaa
