/- The library's symMerge at diags, one element behind: walked. -/
import Derived.Test.YtdcigdkeakiknaaSpsE
namespace Go.Proofs.Ytdcigdkeakiknaa
open Go.RowKit
attribute [local go_sem ↓] Go.wp_at_zero Go.wp_at_succ

theorem below2 {V : List Dg} {p : Nat} {x y : Dg} (hV : InOrder ltD V) (hy : V[p]? = some y) (h : ltD x y = false) : ∀ z ∈ V.take (p + 1), ltD x z = false := by
  intro z hz
  have hp := (List.getElem?_eq_some_iff.1 hy).1
  obtain ⟨k, hk, hkz⟩ := List.mem_iff_getElem.1 hz
  rw [List.length_take] at hk
  rw [List.getElem_take] at hkz
  have hle : ltD y z = false := by
    by_cases e : k = p
    · subst e
      have : y = z := by
        rw [← hkz]
        exact (Option.some.inj ((List.getElem?_eq_getElem (by omega)).symm.trans hy)).symm
      rw [this]
      exact ltD_strict.irr z
    · have := List.pairwise_iff_getElem.1 hV k p (by omega) hp (by omega)
      rw [hkz] at this
      rw [(List.getElem?_eq_some_iff.1 hy).2] at this
      exact this
  exact ltD_strict.le_trans z y x hle h
theorem above2 {V : List Dg} {p : Nat} {x y : Dg} (hV : InOrder ltD V) (hy : V[p]? = some y) (h : ltD x y = true) : ∀ z ∈ V.drop p, ltD x z = true := by
  intro z hz
  have hp := (List.getElem?_eq_some_iff.1 hy).1
  obtain ⟨k, hk, hkz⟩ := List.mem_iff_getElem.1 hz
  rw [List.length_drop] at hk
  rw [List.getElem_drop] at hkz
  have hle : ltD z y = false := by
    by_cases e : k = 0
    · subst e
      have : y = z := by
        rw [← hkz]
        exact (Option.some.inj ((List.getElem?_eq_getElem (by omega)).symm.trans hy)).symm
      rw [this]
      exact ltD_strict.irr z
    · have := List.pairwise_iff_getElem.1 hV p (p + k) hp (by omega) (by omega)
      rw [hkz] at this
      rw [(List.getElem?_eq_some_iff.1 hy).2] at this
      exact this
  cases e : ltD x z with
  | true => rfl
  | false =>
    have := ltD_strict.le_trans y z x hle e
    rw [h] at this
    cases this
theorem swap2b (L R : List Dg) (x y : Dg) {k : Nat} (hk : L.length = k) : (L ++ y :: x :: R)[k]? = some y ∧ (L ++ y :: x :: R)[k + 1]? = some x ∧ ((L ++ y :: x :: R).set (k + 1) y).set k x = L ++ x :: y :: R := by
  subst hk
  refine ⟨by simp, ?_, ?_⟩
  · rw [List.getElem?_append_right (by omega), show L.length + 1 - L.length = 1 by omega]
    rfl
  · rw [List.set_append_right _ _ (by omega), show L.length + 1 - L.length = 1 by omega, List.set_cons_succ, List.set_cons_zero, List.set_append_right _ _ (Nat.le_refl _), Nat.sub_self, List.set_cons_zero]
set_option maxRecDepth 100000 in
set_option maxHeartbeats 8000000 in
theorem sym2_any (B g n c : Nat) (X U Y : List Dg) (x : Dg) (a m b : Nat) (w : World) (h : Row B g n c w (X ++ U ++ [x] ++ Y)) (ha : X.length = a) (hm : a + U.length = m) (hU2 : 2 ≤ U.length) (hb : m + 1 = b) (hU : InOrder ltD U) (hn : n ≤ 1000) :
    Calls Try.prog 32 #[.slice (some ⟨g, 0, none⟩) n c, .int .i64 (a : Int), .int .i64 (m : Int), .int .i64 (b : Int), .func (.func 25) #[] #[]] w fun e w' => e = .returned (.tuple #[]) ∧ w.grownBy w' (some g) ∧ ∃ q, q ≤ U.length ∧ Row B g n c w' (X ++ U.take q ++ [x] ++ U.drop q ++ Y) ∧ (∀ y ∈ U.take q, ltD x y = false) ∧ ∀ y ∈ U.drop q, ltD x y = true := by
  have hl := h.len
  simp only [List.length_append, List.length_singleton] at hl
  have hE := order_enters
  have hcap := h.sl.cap
  have hmax := h.sl.max
  have HX : Hid ((X ++ U ++ [x] ++ Y)[m]? = some x) := by
    unfold Hid
    rw [List.append_assoc, List.getElem?_append_right (by simp; omega), show m - (X ++ U).length = 0 by simp; omega]
    rfl
  have HV : Hid (∀ p y, U[p]? = some y → (X ++ U ++ [x] ++ Y)[a + p]? = some y) := by
    intro p y hy
    have hp := (List.getElem?_eq_some_iff.1 hy).1
    rw [List.append_assoc, List.getElem?_append_left (by simp; omega), List.getElem?_append_right (by omega)]
    rw [show a + p - X.length = p by omega]
    exact hy
  have HVO := Lib.hid hU
  have HLN := Lib.hid (show a + U.length = m ∧ X.length = a ∧ m + 1 = b ∧ b ≤ n from ⟨hm, ha, hb, by omega⟩)
  obtain ⟨z0, hz0, hz1⟩ : ∃ z : Int, IntKind.i64.wrap ((m : Int) - a) = z ∧ ¬ z = 1 := ⟨(m : Int) - a, IntWalk.i64_in _ (by omega), by omega⟩
  have hz2 : (z0 == 1) = false := by simpa using hz1
  have s0 : IntKind.i64.wrap ((b : Int) - m) = 1 := by
    rw [show (b : Int) - m = 1 by omega]
    rfl
  have hbn : b ≤ 1000 := by omega
  have hmb : m < b := by omega
  have ham : a ≤ m := by omega
  have h0 : Row B g n c w (X ++ U.take U.length ++ [x] ++ U.drop U.length ++ Y) := by simpa using h
  clear hU hl hm ha hb h0 hU2
  go_enter Try.func32, Try.ntmps32
  go_wp2_with fail
  go_loopw [14, 15] (fun u v wr => ∃ i j : Nat, u = .int .i64 i ∧ v = .int .i64 j ∧ a ≤ i ∧ i ≤ j ∧ j ≤ m ∧ w.grownBy wr (some g) ∧ Row B g n c wr (X ++ U ++ [x] ++ Y) ∧ Hid ((∀ y ∈ U.take (i - a), ltD x y = false) ∧ ∀ y ∈ U.drop (j - a), ltD x y = true)) (fun u v _ => (intOf v).toNat - (intOf u).toNat)
  case atStart => exact ⟨a, m, rfl, rfl, Nat.le_refl _, ham, Nat.le_refl _, World.grownBy.refl _ _, h, by simp, by rw [List.drop_eq_nil_of_le (by have := HLN.out.1; omega)]; simp⟩
  case round =>
    obtain ⟨i, j, rfl, rfl, hmi, hij, hjb, hg, hr, HI⟩ := hrel
    by_cases hlt : i < j
    · obtain ⟨q, hq, hiq, hqj⟩ := half_of i j hlt
      have hLN := HLN.out
      obtain ⟨y, hy⟩ : ∃ y, U[q - a]? = some y := ⟨U[q - a]'(by omega), List.getElem?_eq_getElem _⟩
      have hy2 := HV.out (q - a) y hy
      rw [show a + (q - a) = q by omega] at hy2
      obtain ⟨x0, x1, x2⟩ := hr.get HX.out
      obtain ⟨y0, y1, y2⟩ := hr.get hy2
      have HB := Lib.hid (fun hh => below2 (x := x) HVO.out hy hh)
      have HA := Lib.hid (fun hh => above2 (x := x) HVO.out hy hh)
      have HRK := Lib.hid hr
      have s1 : IntKind.i64.wrap ((i : Int) + j) = (i : Int) + j := IntWalk.i64_in _ (by omega)
      have s2 : IntKind.u64.wrap ((i : Int) + j) = (i : Int) + j := IntWalk.u64_in _ (by omega)
      have s3 : IntKind.i64.wrap (q : Int) = (q : Int) := IntWalk.i64_in _ (by omega)
      have s4 : IntKind.i64.wrap ((q : Int) + 1) = ((q + 1 : Nat) : Int) := by
        rw [show (q : Int) + 1 = ((q + 1 : Nat) : Int) by omega]
        exact IntWalk.i64_in _ (by omega)
      have l1 : q < n := by omega
      have l2 : m < n := by omega
      have l3 : (i : Int) < j := by omega
      clear hy hy2 hLN hr
      have HC := Lib.hid (ahead_any x y wr.drew)
      go_upto_region 17 with fail
      go_region_with (first | (go_at_call 25; refine HC.out.mono ?_; rintro e w5 ⟨r, rfl, hcs, hk5⟩))
      all_goals
        have hk5' : Kept wr w5 := Kept.trans (Kept.refl wr).drew hk5
        have hg5 := hg.trans (grown_of_kept (row := some g) hk5')
        have hr5 := HRK.out.kept hk5'
        rcases hcs with ⟨hr0, hlt0⟩ | ⟨hr0, hlt0⟩
        · go_wp2_with fail
          all_goals first | (exfalso; rename_i hz; simp at hz; omega) | skip
          go_roundw
          case rel => exact ⟨i, q, rfl, rfl, hmi, hiq, by omega, hg5, hr5, HI.out.1, HA.out hlt0.out⟩
          case measure =>
            simp [intOf]
            omega
        · go_wp2_with fail
          all_goals first | (exfalso; rename_i hz; simp at hz; omega) | skip
          go_roundw
          case rel => exact ⟨q + 1, j, rfl, rfl, by omega, by omega, hjb, hg5, hr5, by rw [show q + 1 - a = q - a + 1 by omega]; exact HB.out hlt0.out, HI.out.2⟩
          case measure =>
            simp [intOf]
            omega
    · obtain rfl : i = j := by omega
      obtain ⟨p0, hp0⟩ : ∃ p, i - a = p := ⟨_, rfl⟩
      rw [hp0] at HI
      have hLN := HLN.out
      have HI0 := Lib.hid (show i = a + p0 by omega)
      have hpV : p0 ≤ U.length := by omega
      have HPV := Lib.hid hpV
      have HR0 := Lib.hid (show w.grownBy wr (some g) ∧ Row B g n c wr (X ++ U.take U.length ++ [x] ++ U.drop U.length ++ Y) ∧ (m : Int) = ((a + U.length : Nat) : Int) from ⟨hg, by simpa using hr, by omega⟩)
      clear hr hg hLN hpV hp0
      go_wp2_with fail
      go_loopw [17] (fun u wq => ∃ p : Nat, u = .int .i64 ((a + p : Nat) : Int) ∧ p0 ≤ p ∧ p ≤ U.length ∧ w.grownBy wq (some g) ∧ Hid (Row B g n c wq (X ++ U.take p ++ [x] ++ U.drop p ++ Y))) (fun u _ => (intOf u).toNat)
      case atStart => exact ⟨U.length, by rw [HR0.out.2.2], HPV.out, Nat.le_refl _, HR0.out.1, HR0.out.2.1⟩
      case round =>
        obtain ⟨p, rfl, hp, hpU, hg, HR⟩ := hrel
        by_cases hlt2 : p0 < p
        · have hLN := HLN.out
          have hi0 := HI0.out
          obtain ⟨p1, rfl⟩ : ∃ p1, p = p1 + 1 := ⟨p - 1, by omega⟩
          obtain ⟨y, hy⟩ : ∃ y, U[p1]? = some y := ⟨U[p1]'(by omega), List.getElem?_eq_getElem _⟩
          obtain ⟨hb1, hb2⟩ := bubble (X := X) (Y := Y) (x := x) hy
          have hr := HR.out
          rw [hb2] at hr
          obtain ⟨k, hk⟩ : ∃ k, a + p1 = k := ⟨_, rfl⟩
          obtain ⟨c1, c2, c3⟩ := swap2b (X ++ U.take p1) (U.drop (p1 + 1) ++ Y) x y (k := k) (by rw [List.length_append, List.length_take, hLN.2.1]; omega)
          rw [← hb1] at c3
          obtain ⟨x0, x1, x2⟩ := hr.get c1
          obtain ⟨y0, y1, y2⟩ := hr.get c2
          have l1 : k < n := by omega
          have l2 : k + 1 < n := by omega
          have HRR := Lib.hid hr
          have HC3 := Lib.hid c3
          have fr := hr.frozen
          have gl := hr.lt.1
          have l3 : (i : Int) < ((k + 1 : Nat) : Int) := by omega
          have HK := Lib.hid hk
          have s6 : IntKind.i64.wrap (((k + 1 : Nat) : Int) - 1) = (k : Int) := by
            rw [show ((k + 1 : Nat) : Int) - 1 = (k : Int) by omega]
            exact IntWalk.i64_in _ (by omega)
          rw [show a + (p1 + 1) = k + 1 by omega]
          obtain ⟨k1, hk1⟩ : ∃ k1, k + 1 = k1 := ⟨_, rfl⟩
          have hkk : k < k1 := by omega
          rw [hk1] at y0 y1 y2 l2 l3 s6 HC3 ⊢
          clear hb1 hb2 hr c1 c2 c3 hy hk hk1 hLN hi0 HR
          go_upto_region 23 with fail
          go_region
          obtain ⟨r1, g1⟩ := HRR.out.set l2 y
          obtain ⟨r2, g2⟩ := r1.set l1 x
          have hg2 := (hg.trans g1).trans g2
          refine ex_named ?_
          intro w5 hw5
          have e5 : w5 = (set3 (set3 wr g k1 y) g k x).drew := hw5
          have r5 : Row B g n c w5 (X ++ U.take p1 ++ [x] ++ U.drop p1 ++ Y) := by rw [e5, ← HC3.out]; exact r2.drew
          have g5 : w.grownBy w5 (some g) := by rw [e5]; exact grown_drew hg2
          clear hw5 e5 r1 r2 g1 g2 hg2 x0 x1 x2 y0 y1 y2 fr hg HRR
          go_wp2_with fail
          go_roundw
          case rel => exact ⟨p1, by rw [HK.out], by omega, by omega, g5, r5⟩
          case measure =>
            simp [intOf]
            omega
        · obtain rfl : p = p0 := by omega
          have hi0 := HI0.out
          rw [← hi0]
          have l3 : ¬ ((i : Int) < (i : Int)) := by omega
          have HPQ := HPV.out
          clear hi0
          go_wp2_with fail
          refine bodyPost_ret (results_none rfl _ _ _) rfl ⟨rfl, hg, p, HPQ, ?_, HI.out.1, HI.out.2⟩
          first | exact HR.out | simpa using HR.out
end Go.Proofs.Ytdcigdkeakiknaa
