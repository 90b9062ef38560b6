/- The library's rotate at diags: walked. -/
import Derived.Test.YtdcigdkeakiknaaSpsB
import Derived.IntWalk
namespace Go.Proofs.Ytdcigdkeakiknaa
open Go.RowKit
attribute [local go_sem ↓] Go.wp_at_zero Go.wp_at_succ

theorem swapR_any (B g n c : Nat) (F : Value) (X P M Q Y : List Dg) (a b m : Nat) (w : World) (h : Row B g n c w (X ++ P ++ M ++ Q ++ Y)) (ha : X.length = a) (hP : P.length = m) (hQ : Q.length = m) (hb : a + m + M.length = b) (hn : n ≤ 1000) :
    Calls Try.prog 35 #[.slice (some ⟨g, 0, none⟩) n c, .int .i64 (a : Int), .int .i64 (b : Int), .int .i64 (m : Int), F] w fun e w' => e = .returned (.tuple #[]) ∧ w.grownBy w' (some g) ∧ Row B g n c w' (X ++ Q ++ M ++ P ++ Y) := by
  have hl := h.len
  simp only [List.length_append] at hl
  refine (swapRange_any B g n c F _ a b m w h (by omega) (by omega) hn).mono ?_
  rintro e w' ⟨he, hg, d', hr, hs⟩
  rw [hs.done ha hP hQ hb] at hr
  exact ⟨he, hg, hr⟩
/-- Where a rotation stands: what is done ahead, two stretches still to change places, what is done behind. -/
structure RotAt (B g n c a m b : Nat) (X U V Y : List Dg) (w : World) (i j : Nat) : Prop where
  i1 : 1 ≤ i
  j1 : 1 ≤ j
  it : ∃ D P Q E, Row B g n c w (X ++ D ++ P ++ Q ++ E ++ Y) ∧ P.length = i ∧ Q.length = j ∧ a + D.length + i = m ∧ m + j + E.length = b ∧ D ++ Q ++ P ++ E = V ++ U
set_option maxHeartbeats 4000000 in
theorem rotate_any (B g n c : Nat) (F : Value) (X U V Y : List Dg) (a m b : Nat) (w : World) (h : Row B g n c w (X ++ U ++ V ++ Y)) (ha : X.length = a) (hU : a + U.length = m) (hV : m + V.length = b) (hU1 : 1 ≤ U.length) (hV1 : 1 ≤ V.length) (hn : n ≤ 1000) :
    Calls Try.prog 34 #[.slice (some ⟨g, 0, none⟩) n c, .int .i64 (a : Int), .int .i64 (m : Int), .int .i64 (b : Int), F] w fun e w' => e = .returned (.tuple #[]) ∧ w.grownBy w' (some g) ∧ Row B g n c w' (X ++ V ++ U ++ Y) := by
  have hl := h.len
  simp only [List.length_append] at hl
  have s1 : IntKind.i64.wrap ((m : Int) - a) = ((m - a : Nat) : Int) := by
    rw [show (m : Int) - a = ((m - a : Nat) : Int) by omega]
    exact IntWalk.i64_in _ (by omega)
  have s2 : IntKind.i64.wrap ((b : Int) - m) = ((b - m : Nat) : Int) := by
    rw [show (b : Int) - m = ((b - m : Nat) : Int) by omega]
    exact IntWalk.i64_in _ (by omega)
  have HST : Hid (RotAt B g n c a m b X U V Y w (m - a) (b - m)) := ⟨by omega, by omega, [], U, V, [], by simpa using h, by omega, by omega, by simp; omega, by simp; omega, by simp⟩
  have HB := Lib.hid (show b ≤ n ∧ X.length = a from ⟨by omega, ha⟩)
  have hmn : m ≤ 1000 := by omega
  have hbn : b ≤ 1000 := by omega
  clear h hl ha hU hV hU1 hV1
  obtain ⟨i0, hi0⟩ : ∃ i, m - a = i := ⟨_, rfl⟩
  obtain ⟨j0, hj0⟩ : ∃ j, b - m = j := ⟨_, rfl⟩
  rw [hi0] at s1 HST
  rw [hj0] at s2 HST
  clear hi0 hj0
  go_enter Try.func34, Try.ntmps34
  go_wp2_with fail
  go_loopw [10, 11] (fun u v wr => ∃ i j : Nat, u = .int .i64 i ∧ v = .int .i64 j ∧ w.grownBy wr (some g) ∧ Hid (RotAt B g n c a m b X U V Y wr i j)) (fun u v _ => (intOf u).toNat + (intOf v).toNat)
  case atStart => exact ⟨i0, j0, rfl, rfl, World.grownBy.refl _ _, HST⟩
  case round =>
    clear HST s1 s2
    obtain ⟨i, j, rfl, rfl, hg, HR⟩ := hrel
    obtain ⟨i1, j1, D, P, Q, E, hr, hP, hQ, hm, hb, heq⟩ := HR.out
    have hXa := HB.out.2
    have HEQ := Lib.hid heq
    clear heq
    by_cases hij : i = j
    · subst hij
      have b1 : ((i : Int) != (i : Int)) = false := by simp
      have s1 : IntKind.i64.wrap ((m : Int) - i) = ((m - i : Nat) : Int) := by
        rw [show (m : Int) - i = ((m - i : Nat) : Int) by omega]
        exact IntWalk.i64_in _ (by omega)
      have HC := Lib.hid (swapR_any B g n c F (X ++ D) P [] Q (E ++ Y) (m - i) m i wr (by simpa using hr) (by simp; omega) hP hQ (by simp; omega) hn)
      have HF : Hid (∀ w', Row B g n c w' (X ++ D ++ Q ++ [] ++ P ++ (E ++ Y)) → Row B g n c w' (X ++ V ++ U ++ Y)) := by
        intro w' h'
        have e : X ++ D ++ Q ++ [] ++ P ++ (E ++ Y) = X ++ (D ++ Q ++ P ++ E) ++ Y := by simp
        rw [e, HEQ.out] at h'
        simpa using h'
      obtain ⟨p, hp⟩ : ∃ p, m - i = p := ⟨_, rfl⟩
      rw [hp] at s1 HC
      clear hr hP hQ hm hb hXa hp
      go_wp2_with fail
      refine HC.out.mono ?_
      rintro e w2 ⟨rfl, g2, hr2⟩
      go_wp2_with fail
      go_end0
      exact ⟨rfl, hg.trans g2, HF.out _ hr2⟩
    · have b1 : ((i : Int) != (j : Int)) = true := by simp; omega
      by_cases hlt : j < i
      · have l1 : (j : Int) < i := by omega
        have s1 : IntKind.i64.wrap ((m : Int) - i) = ((m - i : Nat) : Int) := by
          rw [show (m : Int) - i = ((m - i : Nat) : Int) by omega]
          exact IntWalk.i64_in _ (by omega)
        have s2 : IntKind.i64.wrap ((i : Int) - j) = ((i - j : Nat) : Int) := by
          rw [show (i : Int) - j = ((i - j : Nat) : Int) by omega]
          exact IntWalk.i64_in _ (by omega)
        have hPs := List.take_append_drop j P
        have hP1 : (P.take j).length = j := by rw [List.length_take]; omega
        have hP2 : (P.drop j).length = i - j := by rw [List.length_drop]; omega
        have hr1 : Row B g n c wr (X ++ D ++ P.take j ++ P.drop j ++ Q ++ (E ++ Y)) := by
          have e : X ++ D ++ P.take j ++ P.drop j ++ Q ++ (E ++ Y) = X ++ D ++ P ++ Q ++ E ++ Y := by
            conv => rhs; rw [← hPs]
            simp
          rw [e]
          exact hr
        have HC := Lib.hid (swapR_any B g n c F (X ++ D) (P.take j) (P.drop j) Q (E ++ Y) (m - i) m j wr hr1 (by simp; omega) hP1 hQ (by omega) hn)
        have HF : Hid (∀ w', Row B g n c w' (X ++ D ++ Q ++ P.drop j ++ P.take j ++ (E ++ Y)) → RotAt B g n c a m b X U V Y w' (i - j) j) := by
          intro w' h'
          refine ⟨by omega, j1, D ++ Q, P.drop j, P.take j, E, by simpa using h', hP2, hP1, by simp; omega, hb, ?_⟩
          rw [← HEQ.out]
          conv => rhs; rw [← hPs]
          simp
        obtain ⟨p, hp⟩ : ∃ p, m - i = p := ⟨_, rfl⟩
        obtain ⟨q, hq⟩ : ∃ q, i - j = q := ⟨_, rfl⟩
        have hqi : q < i := by omega
        rw [hp] at s1 HC
        rw [hq] at s2 HF
        clear hr hr1 hP hQ hm hb hXa hp hPs hP1 hP2 hq
        go_wp2_with fail
        refine HC.out.mono ?_
        rintro e w2 ⟨rfl, g2, hr2⟩
        have hg2 := hg.trans g2
        go_wp2_with fail
        go_roundw
        case rel => exact ⟨q, j, rfl, rfl, hg2, HF.out _ hr2⟩
        case measure =>
          simp [intOf]
          omega
      · have l1 : ¬ (j : Int) < i := by omega
        have s1 : IntKind.i64.wrap ((m : Int) - i) = ((m - i : Nat) : Int) := by
          rw [show (m : Int) - i = ((m - i : Nat) : Int) by omega]
          exact IntWalk.i64_in _ (by omega)
        have s2 : IntKind.i64.wrap ((j : Int) - i) = ((j - i : Nat) : Int) := by
          rw [show (j : Int) - i = ((j - i : Nat) : Int) by omega]
          exact IntWalk.i64_in _ (by omega)
        have s3 : IntKind.i64.wrap ((m : Int) + j) = ((m + j : Nat) : Int) := by
          rw [← Int.natCast_add]
          exact IntWalk.i64_in _ (by omega)
        have s4 : IntKind.i64.wrap (((m + j : Nat) : Int) - i) = ((m + j - i : Nat) : Int) := by
          rw [show ((m + j : Nat) : Int) - i = ((m + j - i : Nat) : Int) by omega]
          exact IntWalk.i64_in _ (by omega)
        have hQs := List.take_append_drop (j - i) Q
        have hQ1 : (Q.take (j - i)).length = j - i := by rw [List.length_take]; omega
        have hQ2 : (Q.drop (j - i)).length = i := by rw [List.length_drop]; omega
        have hr1 : Row B g n c wr (X ++ D ++ P ++ Q.take (j - i) ++ Q.drop (j - i) ++ (E ++ Y)) := by
          have e : X ++ D ++ P ++ Q.take (j - i) ++ Q.drop (j - i) ++ (E ++ Y) = X ++ D ++ P ++ Q ++ E ++ Y := by
            conv => rhs; rw [← hQs]
            simp
          rw [e]
          exact hr
        have HC := Lib.hid (swapR_any B g n c F (X ++ D) P (Q.take (j - i)) (Q.drop (j - i)) (E ++ Y) (m - i) (m + j - i) i wr hr1 (by simp; omega) hP hQ2 (by omega) hn)
        have HF : Hid (∀ w', Row B g n c w' (X ++ D ++ Q.drop (j - i) ++ Q.take (j - i) ++ P ++ (E ++ Y)) → RotAt B g n c a m b X U V Y w' i (j - i)) := by
          intro w' h'
          refine ⟨i1, by omega, D, Q.drop (j - i), Q.take (j - i), P ++ E, by simpa using h', hQ2, hQ1, hm, by simp; omega, ?_⟩
          rw [← HEQ.out]
          conv => rhs; rw [← hQs]
          simp
        obtain ⟨p, hp⟩ : ∃ p, m - i = p := ⟨_, rfl⟩
        obtain ⟨q, hq⟩ : ∃ q, j - i = q := ⟨_, rfl⟩
        obtain ⟨r, hr0⟩ : ∃ r, m + j = r := ⟨_, rfl⟩
        obtain ⟨t, ht⟩ : ∃ t, r - i = t := ⟨_, rfl⟩
        have hqj : q < j := by omega
        rw [hp] at s1 HC
        rw [hq] at s2 HF
        rw [hr0] at s3 s4 HC
        rw [ht] at s4 HC
        rw [hq] at HC
        clear hr hr1 hP hQ hm hb hXa hp hQs hQ1 hQ2 hq hr0 ht
        go_wp2_with fail
        refine HC.out.mono ?_
        rintro e w2 ⟨rfl, g2, hr2⟩
        have hg2 := hg.trans g2
        go_wp2_with fail
        go_roundw
        case rel => exact ⟨i, q, rfl, rfl, hg2, HF.out _ hr2⟩
        case measure =>
          simp [intOf]
          omega
end Go.Proofs.Ytdcigdkeakiknaa
