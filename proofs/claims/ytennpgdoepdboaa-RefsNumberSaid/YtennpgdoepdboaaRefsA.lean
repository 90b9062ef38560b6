/- Layer 14: the law's few, same, awake; Lines: walked. -/
import Derived.Test.YtennpgdoepdboaaRefsT
import Derived.Laws.Cover4
namespace Go.Proofs.Ytennpgdoepdboaa
open Go.RowKit
attribute [local go_sem ↓] Go.wp_at_zero Go.wp_at_succ

theorem few_any (A : Option Addr) (n c : Nat) (l : List Int) (w : World) (h : Sl w 1 A n c (l.map (Value.int .i32))) :
    Calls Try.prog 10 #[.slice A n c] w fun e w' => ∃ c', e = .returned (.slice A (min n 100) c') ∧ Sl w' 1 A (min n 100) c' ((l.take 100).map (Value.int .i32)) ∧ Kept w w' := by
  have hcap := h.cap
  have hmax := h.max
  have hl := h.llen1
  by_cases h1 : 100 < n
  · have d1 : decide ((100 : Int) < n) = true := by simp; omega
    have hs := h.to1 (m := 100) (by omega)
    have hcut := run_cut_h appT_runes A n c 100 (by omega)
    rw [show ((100 : Nat) : Int) = 100 by rfl] at hcut
    rw [Nat.min_eq_right (by omega)]
    have j1 : (100 : Int) ≤ c := by omega
    go_enter Try.func10, Try.ntmps10
    go_wp2_with fail
    go_ret
    exact ⟨c, rfl, hs, Kept.refl _⟩
  · have d1 : decide ((100 : Int) < n) = false := by simp; omega
    rw [Nat.min_eq_left (by omega), List.take_of_length_le (by omega)]
    go_enter Try.func10, Try.ntmps10
    go_wp2_with fail
    go_ret
    exact ⟨c, rfl, h, Kept.refl _⟩
/-- Two rows that hold the same runes. -/
theorem same_any (A B : Option Addr) (n c c' : Nat) (l : List Int) (w : World) (h : Sl w 1 A n c (l.map (Value.int .i32))) (h' : Sl w 1 B n c' (l.map (Value.int .i32))) (hn : n ≤ 100000000) :
    Calls Try.prog 18 #[.slice A n c, .slice B n c'] w fun e w' => e = .returned (.bool true) ∧ Kept w w' := by
  have hcap := h.cap
  have hmax := h.max
  go_enter Try.func18, Try.ntmps18
  go_wp2_with fail
  go_loopw [13] (fun u wr => ∃ k : Nat, k ≤ n ∧ u = .int .i64 k ∧ Kept w wr) (fun u _ => n - (intOf u).toNat)
  case atStart => exact ⟨0, Nat.zero_le _, rfl, Kept.refl _⟩
  case round =>
    obtain ⟨k, hkn, rfl, hk⟩ := hrel
    by_cases hp : k < n
    · obtain ⟨b, o, x, rfl, hx, hcx, hb⟩ := (h.kept hk).oneb (k := k) hp
      obtain ⟨b2, o2, y, rfl, hy, hcy, hb2⟩ := (h'.kept hk).oneb (k := k) hp
      have hxy : y = x := by rw [hx] at hy; injection hy with hy; exact hy.symm
      subst hxy
      have l0 : (0 : Int) ≤ k := by omega
      have l1 : (k : Int) < n := by omega
      have l2 : decide ((k : Int) < n) = true := by simp; omega
      clear hx hy
      go_wp2_with fail
      go_quiet (fail)
      all_goals go_wp2_with fail
      all_goals go_roundw
      case rel => exact ⟨k + 1, hp, by simp, by repeat (first | (with_reducible exact hk) | (with_reducible refine Kept.drewN ?_ _) | (with_reducible refine Kept.drew ?_))⟩
      case measure =>
        simp [intOf]
        omega
    · have d1 : decide ((k : Int) < n) = false := by simp; omega
      go_wp2_with fail
      go_ret
      exact ⟨rfl, hk⟩
theorem elem_pc {w : World} {n c k : Nat} {A : Option Addr} {P : List (Pc × Nat)} (h : Sl w 5 A n c (P.flatMap pcE)) (hk : k < n) :
    ∃ b o p, A = some ⟨b, o, none⟩ ∧ P[k]? = some p ∧ w.cell? ⟨b, o + k * 5, none⟩ = some (.int .i64 p.1.kind) ∧ w.cell? ⟨b, o + k * 5 + 1, none⟩ = some (.int .i64 p.2) ∧ w.cell? ⟨b, o + k * 5 + 2, none⟩ = some (.int .i64 ((p.2 : Int) + p.1.len)) ∧ w.cell? ⟨b, o + k * 5 + 3, none⟩ = some (.int .i32 p.1.r) ∧ w.cell? ⟨b, o + k * 5 + 4, none⟩ = some (.string p.1.name) ∧ b < w.heap.size := by
  obtain ⟨b, o, p, hA, hp, hc, hb⟩ := h.elemb (s := 5) (k := k) (fun _ => rfl) (by omega) hk
  exact ⟨b, o, p, hA, hp, hc 0 _ rfl, hc 1 _ rfl, hc 2 _ rfl, hc 3 _ rfl, hc 4 _ rfl, hb⟩
def egA : List Int := [97, 38, 108, 116, 59, 38, 35, 54, 53, 59, 38, 120]
theorem egA_len : (pcsX egA 0).length = 5 := by decide +kernel
theorem egA_kinds : (pcsX egA 0).map (fun p => p.1.kind) = [1, 3, 2, 4, 1] := by decide +kernel
theorem egA_runes : (pcsX egA 0).map (fun p => p.1.r) = [0, 0, 65, 0, 0] := by decide +kernel
theorem egA_names : (pcsX egA 0).map (fun p => p.1.name.data.toList) = [[], [108, 116], [], [], []] := by decide +kernel
theorem egB_put : putF [97, 60, 98] 0 0 = [97, 38, 108, 116, 59, 98] := by decide +kernel
theorem load_runes {P : Program} {w : World} {A : Option Addr} {n c : Nat} {l : List Int} (h : Sl w 1 A n c (l.map (Value.int .i32))) (hn : 0 < n) : ∃ a, A = some a ∧ (loadCells a n).run P w = .ok (l.map (Value.int .i32)).toArray w := by
  obtain ⟨b, o, rfl, hc⟩ := h.at_ hn
  refine ⟨_, rfl, ?_⟩
  have hl : (l.map (Value.int .i32)).length = n := by simpa using h.len
  rw [← hl]
  exact run_loadCells_list w _ _ (fun j u hj => by rw [Addr.add_lit]; exact hc j u hj)
set_option maxHeartbeats 4000000 in
theorem awake_any (w : World) : Calls Try.prog 13 #[] w fun e w' => e = .returned (.bool true) ∧ Kept w w' := by
  have s1 : strI ⟨#[97, 38, 108, 116, 59, 38, 35, 54, 53, 59, 38, 120]⟩ = egA := rfl
  have s2 : strI ⟨#[97, 60, 98]⟩ = [97, 60, 98] := rfl
  have hr1 := fun w' => lrunes_any ⟨#[97, 38, 108, 116, 59, 38, 35, 54, 53, 59, 38, 120]⟩ w' (asc_of rfl) (by decide)
  have hr2 := fun w' => lrunes_any ⟨#[97, 60, 98]⟩ w' (asc_of rfl) (by decide)
  rw [s1] at hr1
  rw [s2] at hr2
  have H1 := Lib.hid hr1
  have H2 := Lib.hid hr2
  clear hr1 hr2
  go_enter Try.func13, Try.ntmps13
  go_wp2_with fail
  refine (H1.out _).mono ?_
  rintro e w1 ⟨VA, VC, rfl, hV, k1⟩
  go_wp2_with fail
  refine (pieces_any _ _ _ egA _ hV (by decide)).mono ?_
  rintro e w2 ⟨PA, PC, rfl, hP, k2⟩
  have hk2 := k1.trans k2
  have hlen := egA_len
  have hK := egA_kinds
  have hR := egA_runes
  have hN := egA_names
  obtain ⟨P, hPe⟩ : ∃ P, pcsX egA 0 = P := ⟨_, rfl⟩
  rw [hPe] at hP hlen hK hR hN ⊢
  clear hPe hV k1 k2
  rw [hlen] at hP ⊢
  obtain ⟨b, o, p1, rfl, hp1, _, _, _, _, c14, hb⟩ := elem_pc hP (k := 1) (by omega)
  obtain ⟨b', o', p2, he, hp2, _, _, _, c23, _, _⟩ := elem_pc hP (k := 2) (by omega)
  injection he with he
  injection he with e1 e2
  subst e1 e2
  obtain ⟨b', o', p3, he, hp3, c30, _, _, _, _, _⟩ := elem_pc hP (k := 3) (by omega)
  injection he with he
  injection he with e1 e2
  subst e1 e2
  have g1 : p1.1.name.data.toList = [108, 116] := by
    have := congrArg (fun z => z[1]?) hN
    rw [List.getElem?_map, hp1] at this
    simpa using this
  have g2 : p2.1.r = 65 := by
    have := congrArg (fun z => z[2]?) hR
    rw [List.getElem?_map, hp2] at this
    simpa using this
  have g3 : p3.1.kind = 4 := by
    have := congrArg (fun z => z[3]?) hK
    rw [List.getElem?_map, hp3] at this
    simpa using this
  rw [g2] at c23
  rw [g3] at c30
  obtain ⟨NM, hNM⟩ : ∃ z, p1.1.name = z := ⟨_, rfl⟩
  rw [hNM] at g1 c14
  have hnm : (NM.toList == [108, 116]) = true := by
    rw [ByteArray.toList_eq, g1]
    rfl
  have hP0 := hP.max
  have hP1 := hP.cap
  clear hp1 hp2 hp3 g1 g2 g3 hK hR hN hP hNM
  go_wp2_with fail
  refine (H2.out _).mono ?_
  rintro e w3 ⟨QA, QC, rfl, hQ, k3⟩
  have hk3 := hk2.trans k3
  go_wp2_with fail
  refine (put_any _ _ _ [97, 60, 98] 0 _ hQ (by decide)).mono ?_
  rintro e w4 ⟨UA, UC, rfl, hU, k4⟩
  rw [egB_put] at hU ⊢
  have hcv : (convert 22 9 (.slice UA 6 UC)).run Try.prog w4 = .ok (.string ⟨#[97, 38, 108, 116, 59, 98]⟩) w4 := by
    obtain ⟨a, rfl, hld⟩ := load_runes (P := Try.prog) hU (by decide)
    rw [run_convert_runes_string w4 22 9 21 (some a) 6 UC Try.underlying22 Try.underlying21 Try.underlying9, run_runesToString w4 a 6 UC [97, 38, 108, 116, 59, 98] hld]
    have : runesBytes [97, 38, 108, 116, 59, 98] = ⟨#[97, 38, 108, 116, 59, 98]⟩ := by decide +kernel
    rw [this]
  have hk4 := hk3.trans k4
  go_wp2_with fail
  go_ret
  exact ⟨rfl, hk4⟩
end Go.Proofs.Ytennpgdoepdboaa
