/- The laws RefsPlainly and RefsPieces, walked. -/
import Derived.Test.YtennpgdoepdboaaRefsPl
namespace Go.Proofs.Ytennpgdoepdboaa
open Go.RowKit
attribute [local go_sem ↓] Go.wp_at_zero Go.wp_at_succ

set_option maxHeartbeats 4000000 in
theorem lawPlainly_any (A : Option Addr) (n c : Nat) (l : List Int) (w : World) (h : Sl w 1 A n c (l.map (Value.int .i32))) (hr : Rn l) :
    Calls Try.prog 9 #[.slice A n c] w fun e w' => e = .returned (.bool true) ∧ Kept w w' := by
  have hrt := hr.take 100
  go_enter Try.func9, Try.ntmps9
  go_wp2_with fail
  refine (few_any _ _ _ _ _ h).mono ?_
  rintro e w1 ⟨C1, rfl, h1, k1⟩
  have hN : min n 100 ≤ 100 := Nat.min_le_right _ _
  obtain ⟨N, hNe⟩ : ∃ N, min n 100 = N := ⟨_, rfl⟩
  rw [hNe] at h1 hN ⊢
  obtain ⟨L, hLe⟩ : ∃ L, l.take 100 = L := ⟨_, rfl⟩
  rw [hLe] at h1 hrt
  clear hNe hLe
  have hp1 := fun w' (hk' : Kept w1 w') => plainly_any _ _ _ L w' (h1.kept hk') (by omega)
  have hp2 := fun w' (hk' : Kept w1 w') => rplainly_any _ _ _ L w' (h1.kept hk') (by omega) hrt
  have hOl : ∀ P, plainlyF L = some P → P.length ≤ 1000000 := by
    intro P hP
    have := plain_len L.length L P (Nat.le_refl _) hP
    have := h1.llen1
    omega
  cases hp : plainlyF L with
  | none =>
    rw [hp] at hp1 hp2
    have H1 := Lib.hid hp1
    have H2 := Lib.hid hp2
    clear hp1 hp2 hp hOl
    go_wp2_with fail
    refine (H1.out _ (Kept.refl _)).mono ?_
    rintro e w2 ⟨he, k2⟩
    obtain rfl : e = _ := he
    go_wp2_with fail
    refine (H2.out _ k2).mono ?_
    rintro e w3 ⟨he, k3⟩
    obtain rfl : e = _ := he
    have hk3 := (k1.trans k2).trans k3
    go_wp2_with fail
    refine (same_any none none 0 0 0 [] _ Sl.nil_ Sl.nil_ (by omega)).mono ?_
    rintro e w4 ⟨rfl, k4⟩
    have hk4 := hk3.trans k4
    go_wp2_with fail
    refine (awake_any _).mono ?_
    rintro e w5 ⟨rfl, k5⟩
    go_wp2_with fail
    go_ret
    exact ⟨rfl, hk4.trans k5⟩
  | some P =>
    have hPl := hOl P hp
    rw [hp] at hp1 hp2
    have H1 := Lib.hid hp1
    have H2 := Lib.hid hp2
    clear hp1 hp2 hp hOl
    go_wp2_with fail
    refine (H1.out _ (Kept.refl _)).mono ?_
    rintro e w2 ⟨⟨VA, VC, rfl, hV⟩, k2⟩
    go_wp2_with fail
    refine (H2.out _ k2).mono ?_
    rintro e w3 ⟨⟨UA, UC, rfl, hU⟩, k3⟩
    have hk3 := (k1.trans k2).trans k3
    have hV3 := hV.kept k3
    go_wp2_with fail
    refine (same_any _ _ _ _ _ P _ hV3 hU (by omega)).mono ?_
    rintro e w4 ⟨rfl, k4⟩
    have hk4 := hk3.trans k4
    go_wp2_with fail
    refine (awake_any _).mono ?_
    rintro e w5 ⟨rfl, k5⟩
    go_wp2_with fail
    go_ret
    exact ⟨rfl, hk4.trans k5⟩
theorem pos_chain : ∀ (f a : Nat) (l : List Int) (k : Nat) (x : Pc × Nat), l.length ≤ f + a → (pcsX l a)[k]? = some x → 1 ≤ x.1.len
  | 0, a, l, k, x, h, hx => by
    rw [pcsX_end (by omega)] at hx
    simp at hx
  | f + 1, a, l, k, x, h, hx => by
    by_cases ha : a < l.length
    · have hne : l.drop a ≠ [] := by
        intro e
        have := congrArg List.length e
        rw [List.length_drop, List.length_nil] at this
        omega
      have h1 := pieceF_len hne
      rw [pcsX_cons ha] at hx
      cases k with
      | zero =>
        have : (pieceF (l.drop a), a) = x := by simpa using hx
        rw [← this]
        exact h1
      | succ k => exact pos_chain f (a + (pieceF (l.drop a)).len) l k x (by omega) (by simpa using hx)
    · rw [pcsX_end ha] at hx
      simp at hx
set_option maxHeartbeats 8000000 in
theorem lawPieces_any (A : Option Addr) (n c : Nat) (l : List Int) (w : World) (h : Sl w 1 A n c (l.map (Value.int .i32))) (hr : Rn l) :
    Calls Try.prog 3 #[.slice A n c] w fun e w' => e = .returned (.bool true) ∧ Kept w w' := by
  have hrt := hr.take 100
  go_enter Try.func3, Try.ntmps3
  go_wp2_with fail
  refine (few_any _ _ _ _ _ h).mono ?_
  rintro e w1 ⟨C1, rfl, h1, k1⟩
  have hN : min n 100 ≤ 100 := Nat.min_le_right _ _
  obtain ⟨N, hNe⟩ : ∃ N, min n 100 = N := ⟨_, rfl⟩
  rw [hNe] at h1 hN ⊢
  obtain ⟨L, hLe⟩ : ∃ L, l.take 100 = L := ⟨_, rfl⟩
  rw [hLe] at h1 hrt
  clear hNe hLe
  have HLN := Lib.hid h1.llen1
  have hcapN := h1.cap
  have hmaxN := h1.max
  have hQn := pcsX_len L
  rw [HLN.out] at hQn
  have HCH := Lib.hid (fun k x => pos_chain L.length 0 L k x (by omega))
  go_wp2_with fail
  refine (pieces_any _ _ _ L _ h1 (by omega)).mono ?_
  rintro e w2 ⟨PA, PC, rfl, hP, k2⟩
  have h2 := h1.kept k2
  go_wp2_with fail
  refine (rpieces_any _ _ _ L _ h2 (by omega) hrt).mono ?_
  rintro e w3 ⟨RA, RC, rfl, hR, k3⟩
  have hP3 := hP.kept k3
  have hk3 := (k1.trans k2).trans k3
  clear h1 h2 hP k1 k2 k3
  obtain ⟨P, hPe⟩ : ∃ P, pcsX L 0 = P := ⟨_, rfl⟩
  rw [hPe] at hP3 hR hQn HCH ⊢
  have HPE := Lib.hid hPe
  clear hPe
  obtain ⟨Q, hQ⟩ : ∃ Q, P.length = Q := ⟨_, rfl⟩
  rw [hQ] at hP3 hR hQn ⊢
  have HQ := Lib.hid hQ
  clear hQ
  have hcP := hP3.cap
  have hmP := hP3.max
  have hcR := hR.cap
  have hmR := hR.max
  go_wp2_with fail
  go_loopw [5, 21] (fun s5 u wr => ∃ (k a : Nat), k ≤ Q ∧ a ≤ N ∧ u = .int .i64 k ∧ s5 = .int .i64 a ∧ Kept w3 wr ∧ Hid (∃ D, D.length = k ∧ P = D ++ pcsX L a)) (fun _ u _ => Q - (intOf u).toNat)
  case atStart => exact ⟨0, 0, Nat.zero_le _, Nat.zero_le _, rfl, rfl, Kept.refl _, ⟨[], rfl, by rw [HPE.out]; rfl⟩⟩
  case round =>
    obtain ⟨k, a, hkQ, haN, rfl, rfl, hk, hinv⟩ := hrel
    by_cases hp : k < Q
    · obtain ⟨b, o, p, rfl, hpx, c0, c1, c2, c3, c4, hb⟩ := elem_pc (hR.kept hk) hp
      obtain ⟨b', o', p', rfl, hpx', c0', c1', c2', c3', c4', hb'⟩ := elem_pc (hP3.kept hk) hp
      obtain rfl : p' = p := by rw [hpx] at hpx'; injection hpx' with e; exact e.symm
      have hlen1 := HCH.out k p' hpx
      have hnx : ∃ D, D.length = k + 1 ∧ P = D ++ pcsX L (a + p'.1.len) := by
        obtain ⟨D, hD, hPD⟩ := hinv.out
        have haL : a < L.length := by
          rcases Nat.lt_or_ge a L.length with h | h
          · exact h
          · rw [pcsX_end (by omega), List.append_nil] at hPD
            have := HQ.out
            rw [hPD] at this
            omega
        rw [pcsX_cons haL] at hPD
        have hpp : p' = (pieceF (L.drop a), a) := by
          have := hpx
          rw [hPD, List.getElem?_append_right (by omega), hD, Nat.sub_self] at this
          simpa using this.symm
        refine ⟨D ++ [p'], by simp [hD], ?_⟩
        rw [hpp, hPD]
        simp
      have hpa : p'.2 = a ∧ a + p'.1.len ≤ N := by
        obtain ⟨D, hD, hPD⟩ := hinv.out
        have haL : a < L.length := by
          rcases Nat.lt_or_ge a L.length with h | h
          · exact h
          · rw [pcsX_end (by omega), List.append_nil] at hPD
            have := HQ.out
            rw [hPD] at this
            omega
        rw [pcsX_cons haL] at hPD
        have hpp : p' = (pieceF (L.drop a), a) := by
          have := hpx
          rw [hPD, List.getElem?_append_right (by omega), hD, Nat.sub_self] at this
          simpa using this.symm
        have hin := pcsX_in L L.length 0 (by omega) p' (by rw [HPE.out]; exact List.mem_of_getElem? hpx)
        rw [HLN.out] at hin
        rw [hpp] at hin ⊢
        exact ⟨rfl, hin⟩
      obtain ⟨⟨pk, pl, pr, pn⟩, pa⟩ := p'
      dsimp only at c0 c1 c2 c3 c4 c0' c1' c2' c3' c4' hlen1 hnx hpa
      obtain ⟨rfl, hpaN⟩ := hpa
      have HNX := Lib.hid hnx
      have l0 : (0 : Int) ≤ k := by omega
      have l1 : (k : Int) < Q := by omega
      have dle : decide ((pa : Int) + pl ≤ pa) = false := by simp; omega
      have hT0 := Blk.new wr #[.int .i64 pk, .int .i64 pa, .int .i64 ((pa : Int) + pl), .int .i32 pr, .string pn] 29
      have hk1 := hk.alloc (.cells #[.int .i64 pk, .int .i64 pa, .int .i64 ((pa : Int) + pl), .int .i32 pr, .string pn] 29)
      have ca0 := fun ob => ((Kept.refl wr).alloc ob).cell c0'
      have ca1 := fun ob => ((Kept.refl wr).alloc ob).cell c1'
      have ca2 := fun ob => ((Kept.refl wr).alloc ob).cell c2'
      have ca3 := fun ob => ((Kept.refl wr).alloc ob).cell c3'
      have ca4 := fun ob => ((Kept.refl wr).alloc ob).cell c4'
      clear hpx hpx' hnx
      go_wp2_with fail
      go_quiet (fail)
      all_goals go_wp2_with fail
      all_goals go_roundw
      case rel => exact ⟨k + 1, pa + pl, hp, hpaN, by simp, by simp, by repeat (first | (with_reducible exact hk1) | (with_reducible refine Kept.drewN ?_ _) | (with_reducible refine Kept.drew ?_)), HNX.out⟩
      case measure =>
        simp [intOf]
        omega
    · have d1 : decide ((k : Int) < Q) = false := by simp; omega
      have haE : a = N := by
        obtain ⟨D, hD, hPD⟩ := hinv.out
        rcases Nat.lt_or_ge a L.length with h | h
        · rw [pcsX_cons h] at hPD
          have := HQ.out
          rw [hPD, List.length_append, List.length_cons] at this
          omega
        · have := HLN.out
          omega
      subst haE
      clear hinv
      go_wp2_with fail
      refine (awake_any _).mono ?_
      rintro e w8 ⟨rfl, k8⟩
      go_wp2_with fail
      go_ret
      exact ⟨rfl, (hk3.trans hk).trans k8⟩
end Go.Proofs.Ytennpgdoepdboaa
