/- Layer 14: Number: walked. -/
import Derived.Test.YtmicmmbdkmmnoaaRefsK
namespace Go.Proofs.Ytmicmmbdkmmnoaa
open Go.RowKit
attribute [local go_sem ↓] Go.wp_at_zero Go.wp_at_succ

theorem refT_short (s : List Int) : (refT s).1 = 3 → (refT s).2 = s.length → (s[2]? = some 120 → 5 ≤ s.length) ∧ 4 ≤ s.length := by
  intro h1 h2
  unfold refT at h1 h2
  by_cases h35 : s[1]? = some 35
  · rw [if_pos h35] at h1 h2
    by_cases h120 : s[2]? = some 120
    · rw [if_pos h120] at h1 h2
      split at h1
      · rename_i hc
        rw [if_pos hc] at h2
        dsimp only at h2
        exact ⟨fun _ => by omega, by omega⟩
      · cases h1
    · rw [if_neg h120] at h1 h2
      split at h1
      · rename_i hc
        rw [if_pos hc] at h2
        dsimp only at h2
        exact ⟨fun h => absurd h h120, by omega⟩
      · cases h1
  · rw [if_neg h35] at h1
    split at h1 <;> cases h1
theorem worthF_bd (base : Int) (h0 : 0 ≤ base) : ∀ (s : List Int) (v : Int), 0 ≤ v → v ≤ 1114112 → 0 ≤ worthF base v s ∧ worthF base v s ≤ 1114112
  | [], v, h, h' => ⟨h, h'⟩
  | x :: s, v, h, h' => by
    have := hexV_bd x
    have hm := Int.mul_nonneg h h0
    exact worthF_bd base h0 s _ (by omega) (by omega)
set_option maxHeartbeats 1000000 in
theorem number_any (A : Option Addr) (n c : Nat) (l : List Int) (w : World) (h : Sl w 1 A n c (l.map (Value.int .i32))) (hn : n ≤ 1000000) (h38 : l[0]? = some 38) :
    Calls Try.prog 64 #[.slice A n c] w fun e w' => e = .returned (.tuple #[.int .i32 (if 0 ≤ numberF l then numberF l else 0), .bool (decide (0 ≤ numberF l))]) ∧ Kept w w' := by
  have hcap := h.cap
  have hmax := h.max
  have hl := h.llen1
  have h1 : 0 < n := by
    have := (List.getElem?_eq_some_iff.1 h38).1
    omega
  have hsh := refT_short l
  have hnum : numberF l = if (refT l).1 = 3 ∧ (refT l).2 = n then numR l else -1 := by unfold numberF; rw [hl]
  have hnext := fun w' (hk' : Kept w w') => next_any A n c l 0 w' (h.kept hk') hn h1 h38
  unfold tokC at hnext
  rw [List.drop_zero] at hnext
  rw [hl] at hsh
  obtain ⟨tk, tt, hT⟩ : ∃ tk tt, refT l = (tk, tt) := ⟨_, _, rfl⟩
  rw [hT] at hnext hsh hnum
  dsimp only at hnext hsh hnum
  obtain ⟨tb, htb⟩ : ∃ b, (tk != 11) = b := ⟨_, rfl⟩
  have htb2 : tk = 3 → tb = true := by
    intro e
    rw [← htb, e]
    rfl
  have e0 : ((0 : Nat) : Int) + (tt : Int) = (tt : Int) := by omega
  rw [htb, e0] at hnext
  have HNX := Lib.hid hnext
  clear hnext htb
  obtain ⟨NF, hNF⟩ : ∃ z, numberF l = z := ⟨_, rfl⟩
  rw [hNF] at hnum ⊢
  clear hNF
  obtain ⟨RV, hRV⟩ : ∃ z, (if 0 ≤ NF then NF else 0) = z := ⟨_, rfl⟩
  obtain ⟨RB, hRB⟩ : ∃ z, decide (0 ≤ NF) = z := ⟨_, rfl⟩
  rw [hRV, hRB]
  by_cases hok : tk = 3 ∧ tt = n
  rotate_left
  · have hN : NF = -1 := by rw [hnum, if_neg hok]
    subst hN
    obtain rfl : (0 : Int) = RV := hRV
    obtain rfl : false = RB := hRB
    by_cases hk3 : tk = 3
    · have d1 : (tk != 3) = false := by simp [hk3]
      have d2 : ((tt : Int) != n) = true := by
        simp
        intro e
        exact hok ⟨hk3, by omega⟩
      clear hnum hok hk3 htb2 hsh
      go_enter Try.func64, Try.ntmps64
      go_wp2_with fail
      refine (HNX.out _ (Kept.refl _)).mono ?_
      rintro e w1 ⟨rfl, hk1⟩
      go_wp2_with fail
      go_ret2
      exact ⟨rfl, hk1.alloc _⟩
    · have d1 : (tk != 3) = true := by simp [hk3]
      clear hnum hok hk3 htb2 hsh
      go_enter Try.func64, Try.ntmps64
      go_wp2_with fail
      refine (HNX.out _ (Kept.refl _)).mono ?_
      rintro e w1 ⟨rfl, hk1⟩
      go_wp2_with fail
      go_ret2
      exact ⟨rfl, hk1.alloc _⟩
  · rw [if_pos hok] at hnum
    obtain ⟨rfl, rfl⟩ := hok
    obtain ⟨hs5, hs4⟩ := hsh rfl rfl
    obtain rfl := htb2 rfl
    obtain ⟨b, o, x, rfl, hx, hc, hb⟩ := h.oneb (k := 2) (by omega)
    have hnum2 : NF = if x = 120 then (if isChar (worthF 16 0 ((l.drop 3).take (tt - 4))) then worthF 16 0 ((l.drop 3).take (tt - 4)) else -1) else (if isChar (worthF 10 0 ((l.drop 2).take (tt - 3))) then worthF 10 0 ((l.drop 2).take (tt - 3)) else -1) := by
      rw [hnum]
      unfold numR
      rw [hx, hl]
      by_cases hxx : x = 120
      · subst hxx
        simp
      · simp [hxx]
    rw [hx] at hs5
    clear hnum hx
    have wn : IntKind.i64.wrap ((tt : Int) - 1) = ((tt - 1 : Nat) : Int) := by
      rw [IntWalk.i64_in _ (by omega)]
      omega
    by_cases hxx : x = 120
    · subst hxx
      rw [if_pos rfl] at hnum2
      have h5 := hs5 rfl
      have hcs := h.cut1 (i := 3) (m := tt - 1) (by omega) (by omega)
      rw [show cutA (some ⟨b, o, none⟩) c 3 1 = some ⟨b, o + 3, none⟩ from by unfold cutA; rw [if_neg (by omega)]; rfl] at hcs
      rw [show tt - 4 = tt - 1 - 3 by omega] at hnum2
      obtain ⟨L2, hL2⟩ : ∃ L2, (l.drop 3).take (tt - 1 - 3) = L2 := ⟨_, rfl⟩
      rw [hL2] at hcs hnum2
      have hwb := worthF_bd 16 (by omega) L2 0 (by omega) (by omega)
      have hwo := fun w' (hk' : Kept w w') => worth_any _ _ _ L2 16 w' (hcs.kept hk') (by omega) (by omega) (by omega)
      obtain ⟨V, hV⟩ : ∃ V, worthF 16 0 L2 = V := ⟨_, rfl⟩
      rw [hV] at hnum2 hwo hwb
      have HW := Lib.hid hwo
      have q1 : (3 : Int) ≤ ((tt - 1 : Nat) : Int) := by omega
      have q2 : ((tt - 1 : Nat) : Int) ≤ c := by omega
      have q3 : (0 : Int) ≤ ((tt - 1 : Nat) : Int) := by omega
      clear hL2 hV hwo hs5
      obtain ⟨B, hB⟩ : ∃ B, isChar V = B := ⟨_, rfl⟩
      rw [hB] at hnum2
      have HN := Lib.hid hnum2
      clear hnum2
      go_enter Try.func64, Try.ntmps64
      go_wp2_with fail
      refine (HNX.out _ (Kept.refl _)).mono ?_
      rintro e w1 ⟨rfl, hk1⟩
      have hc1 := hk1.cell hc
      have hb1 := hk1.size
      have hca := fun ob => ((Kept.refl w1).alloc ob).cell hc1
      go_wp2_with fail
      refine (HW.out _ (hk1.alloc _)).mono ?_
      rintro e w2 ⟨rfl, hk2⟩
      have hK2 := (hk1.alloc _).trans hk2
      go_wp2_with fail
      refine (char_any _ _).mono ?_
      rintro e w3 ⟨rfl, hk3⟩
      rw [hB]
      cases B
      · have hN0 : NF = -1 := by rw [HN.out]; rfl
        subst hN0
        obtain rfl : (0 : Int) = RV := hRV
        obtain rfl : false = RB := hRB
        go_wp2_with fail
        go_ret2
        exact ⟨rfl, hK2.trans hk3⟩
      · have hN0 : NF = V := by rw [HN.out]; rfl
        subst hN0
        have hnn := isChar_num hB
        obtain rfl : NF = RV := by rw [← hRV, if_pos hnn]
        obtain rfl : true = RB := by rw [← hRB]; simpa using hnn
        clear hRV hRB hB hnn hwb
        go_wp2_with fail
        go_ret2
        exact ⟨rfl, hK2.trans hk3⟩
    · rw [if_neg hxx] at hnum2
      have dx : (x == 120) = false := by simpa using hxx
      clear hxx
      have hcs := h.cut1 (i := 2) (m := tt - 1) (by omega) (by omega)
      rw [show cutA (some ⟨b, o, none⟩) c 2 1 = some ⟨b, o + 2, none⟩ from by unfold cutA; rw [if_neg (by omega)]; rfl] at hcs
      rw [show tt - 3 = tt - 1 - 2 by omega] at hnum2
      obtain ⟨L2, hL2⟩ : ∃ L2, (l.drop 2).take (tt - 1 - 2) = L2 := ⟨_, rfl⟩
      rw [hL2] at hcs hnum2
      have hwb := worthF_bd 10 (by omega) L2 0 (by omega) (by omega)
      have hwo := fun w' (hk' : Kept w w') => worth_any _ _ _ L2 10 w' (hcs.kept hk') (by omega) (by omega) (by omega)
      obtain ⟨V, hV⟩ : ∃ V, worthF 10 0 L2 = V := ⟨_, rfl⟩
      rw [hV] at hnum2 hwo hwb
      have HW := Lib.hid hwo
      have q1 : (2 : Int) ≤ ((tt - 1 : Nat) : Int) := by omega
      have q2 : ((tt - 1 : Nat) : Int) ≤ c := by omega
      have q3 : (0 : Int) ≤ ((tt - 1 : Nat) : Int) := by omega
      clear hL2 hV hwo hs5
      obtain ⟨B, hB⟩ : ∃ B, isChar V = B := ⟨_, rfl⟩
      rw [hB] at hnum2
      have HN := Lib.hid hnum2
      clear hnum2
      go_enter Try.func64, Try.ntmps64
      go_wp2_with fail
      refine (HNX.out _ (Kept.refl _)).mono ?_
      rintro e w1 ⟨rfl, hk1⟩
      have hc1 := hk1.cell hc
      have hb1 := hk1.size
      have hca := fun ob => ((Kept.refl w1).alloc ob).cell hc1
      go_wp2_with fail
      refine (HW.out _ (hk1.alloc _)).mono ?_
      rintro e w2 ⟨rfl, hk2⟩
      have hK2 := (hk1.alloc _).trans hk2
      go_wp2_with fail
      refine (char_any _ _).mono ?_
      rintro e w3 ⟨rfl, hk3⟩
      rw [hB]
      cases B
      · have hN0 : NF = -1 := by rw [HN.out]; rfl
        subst hN0
        obtain rfl : (0 : Int) = RV := hRV
        obtain rfl : false = RB := hRB
        go_wp2_with fail
        go_ret2
        exact ⟨rfl, hK2.trans hk3⟩
      · have hN0 : NF = V := by rw [HN.out]; rfl
        subst hN0
        have hnn := isChar_num hB
        obtain rfl : NF = RV := by rw [← hRV, if_pos hnn]
        obtain rfl : true = RB := by rw [← hRB]; simpa using hnn
        clear hRV hRB hB hnn hwb
        go_wp2_with fail
        go_ret2
        exact ⟨rfl, hK2.trans hk3⟩
end Go.Proofs.Ytmicmmbdkmmnoaa
