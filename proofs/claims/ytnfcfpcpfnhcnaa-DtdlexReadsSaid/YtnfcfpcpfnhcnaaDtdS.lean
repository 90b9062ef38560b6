/- Layer 9, the document's: quoted, word: walked. -/
import Derived.Test.YtnfcfpcpfnhcnaaDtdP
import Derived.Test.YtnfcfpcpfnhcnaaLeadR
import Derived.Test.YtnfcfpcpfnhcnaaBlk
namespace Go.Proofs.Ytnfcfpcpfnhcnaa
open Go.RowKit
attribute [local go_sem ↓] Go.wp_at_zero Go.wp_at_succ

def rquoR (a : Nat) : Option Nat → Int
  | some j => ((a + j + 2 : Nat) : Int)
  | none => -1
theorem rquoted_any (A : Option Addr) (n c : Nat) (l : List Int) (a : Nat) (x : Int) (w : World) (h : Sl w 1 A n c (l.map (Value.int .i32))) (hn : n ≤ 1000000) (hx : l[a]? = some x) :
    Calls Try.prog 45 #[.slice A n c, .int .i64 a] w fun e w' => e = .returned (.int .i64 (rquoR a (closeF x (l.drop (a + 1))))) ∧ Kept w w' := by
  have hcap := h.cap
  have hmax := h.max
  have HL := Lib.hid h.llen1
  have ha : a < n := by
    have := (List.getElem?_eq_some_iff.1 hx).1
    have := HL.out
    omega
  obtain ⟨b, o, x', rfl, hx', hc, hbb⟩ := h.oneb (k := a) ha
  obtain rfl : x' = x := by rw [hx] at hx'; injection hx' with hx'; exact hx'.symm
  clear hx' hx
  obtain ⟨F, hF⟩ : ∃ F, closeF x' (l.drop (a + 1)) = F := ⟨_, rfl⟩
  rw [hF]
  go_enter Try.func45, Try.ntmps45
  go_wp2_with fail
  go_loopw [5] (fun i wr => ∃ k : Nat, a + 1 + k ≤ n ∧ i = .int .i64 ((a + 1 + k : Nat) : Int) ∧ (∃ q, wr = w.drewN q) ∧ Hid (F = (closeF x' (l.drop (a + 1 + k))).map (· + k))) (fun i _ => n - (intOf i).toNat)
  case atStart => exact ⟨0, by omega, by go_num, ⟨0, rfl⟩, by unfold Hid; rw [← hF]; simp⟩
  case round =>
    obtain ⟨k, hk, rfl, ⟨q, rfl⟩, hinv⟩ := hrel
    by_cases hlt : a + 1 + k < n
    · obtain ⟨b2, o2, y, hA, hy, hcy, hby⟩ := h.oneb (k := a + 1 + k) hlt
      injection hA with hA
      injection hA with hA1 hA2
      subst hA1 hA2
      have HY := Lib.hid hy
      clear hy
      by_cases hxe : y = x'
      · have g2 : (y == x') = true := by simpa using hxe
        have HE := Lib.hid hxe
        clear hxe
        have HV : Hid (rquoR a F = (a : Int) + 1 + k + 1) := by
          unfold Hid
          rw [hinv.out, closeF_yes (HE.out ▸ HY.out)]
          simp only [Option.map, rquoR]
          omega
        go_wp2_with fail
        go_quiet (fail)
        go_wp2_with fail
        go_ret
        exact ⟨ret_int HV.out.symm, by repeat (first | (with_reducible exact Kept.refl _) | (with_reducible refine Kept.drewN ?_ _) | (with_reducible refine Kept.drew ?_))⟩
      · have g2 : (y == x') = false := by simpa using hxe
        have HE := Lib.hid hxe
        clear hxe
        go_wp2_with fail
        go_quiet (fail)
        go_wp2_with fail
        go_roundw
        case rel => exact ⟨k + 1, by omega, by go_num, ⟨_, rfl⟩, by
          unfold Hid
          rw [hinv.out, closeF_no HY.out HE.out, Option.map_map]
          congr 1
          funext z
          simp
          omega⟩
        case measure => simp [intOf]; omega
    · have HV : Hid (rquoR a F = -1) := by
        unfold Hid
        rw [hinv.out, closeF_end (by have := HL.out; omega)]
        rfl
      go_wp2_with fail
      go_ret
      exact ⟨ret_int HV.out.symm, (Kept.refl _).drewN _⟩
@[reducible] def zp : Array Value := #[.int .i64 0, .int .i64 0, .int .i64 0]
set_option maxHeartbeats 4000000 in
theorem rword_any (A : Option Addr) (n c : Nat) (l : List Int) (a : Nat) (w : World) (h : Sl w 1 A n c (l.map (Value.int .i32))) (hn : n ≤ 1000000) (ha : a < n) :
    Calls Try.prog 26 #[.slice A n c, .int .i64 a] w fun e w' => e = .returned (.agg #[.int .i64 (wordF (l.drop a)).1, .int .i64 a, .int .i64 ((a : Int) + ((wordF (l.drop a)).2 : Nat))]) ∧ Kept w w' := by
  have hcap := h.cap
  have hmax := h.max
  have HL := Lib.hid h.llen1
  obtain ⟨b, o, x, rfl, hx, hc, hbb⟩ := h.oneb (k := a) ha
  obtain ⟨K, N, hKN⟩ : ∃ K N, wordF (l.drop a) = (K, N) := ⟨_, _, rfl⟩
  rw [hKN]
  dsimp only
  have HKN := Lib.hid hKN
  have HX := Lib.hid hx
  have hk0 : Kept w (w.alloc (.cells zp 36)) := (Kept.refl _).alloc _
  have B0 := Blk.new w zp 36
  have hsp := fun w' => rspace_any x w'
  obtain ⟨s, hs⟩ : ∃ s, isSpace x = s := ⟨_, rfl⟩
  rw [hs] at hsp
  have HSP := Lib.hid hsp
  have HS := Lib.hid hs
  clear hKN hx hsp hs
  cases s
  rotate_left
  · obtain ⟨R, hR⟩ : ∃ R, runF isSpace (l.drop a) = R := ⟨_, rfl⟩
    have hRv : K = 3 ∧ N = R := by
      have h1 := HKN.out
      have h2 := runF_yes HX.out HS.out
      unfold wordF at h1
      rw [if_pos (by omega), hR] at h1
      injection h1 with h3 h4
      exact ⟨h3.symm, h4.symm⟩
    obtain ⟨rfl, rfl⟩ := hRv
    have HR := Lib.hid hR
    clear hR HKN
    go_enter Try.func26, Try.ntmps26
    go_upto_region 1 with fail
    have hc1 := hk0.cell hc
    have hsw := h.kept hk0
    generalize w.alloc (.cells zp 36) = w1 at hk0 B0 hc1 hsw ⊢
    go_wp2_with fail
    refine (HSP.out _).mono ?_
    rintro e w2 ⟨rfl, rfl⟩
    have f9 := B0.cell
    have g9 := B0.frozen
    go_wp2_with fail
    go_loopw [5] (fun i wr => ∃ k : Nat, k ≤ n ∧ a ≤ k ∧ i = .int .i64 k ∧ w1 = wr ∧ Hid (a + N = k + runF isSpace (l.drop k))) (fun i _ => n - (intOf i).toNat)
    case atStart => exact ⟨a, by omega, Nat.le_refl _, rfl, by trivial, by unfold Hid; rw [HR.out]⟩
    case round =>
      obtain ⟨k, hk, hak, rfl, rfl, hinv⟩ := hrel
      by_cases hlt : k < n
      · obtain ⟨b2, o2, y, hA, hy, hcy, hby⟩ := hsw.oneb (k := k) hlt
        injection hA with hA
        injection hA with hA1 hA2
        subst hA1 hA2
        have hspy := fun w' => rspace_any y w'
        obtain ⟨sy, hsy⟩ : ∃ s, isSpace y = s := ⟨_, rfl⟩
        rw [hsy] at hspy
        have HSY := Lib.hid hspy
        have HY := Lib.hid (show _ ∧ _ from ⟨hy, hsy⟩)
        clear hspy hy hsy
        cases sy
        · have HN : Hid (a + N = k) := by
            unfold Hid
            rw [hinv.out, runF_no HY.out.1 HY.out.2]
            rfl
          go_wp2_with fail
          refine (HSY.out _).mono ?_
          rintro e w3 ⟨rfl, rfl⟩
          go_wp2_with fail
          refine bodyPost_ret (v := .agg #[.int .i64 3, .int .i64 a, .int .i64 k]) ?_ rfl ⟨?_, ?_⟩
          · simp [results, Try.results26, go_sem, f9]
          · rw [show (k : Int) = (a : Int) + (N : Int) by have := HN.out; omega]
          · repeat (first | (with_reducible exact hk0) | (with_reducible refine Kept.setCell ?_ (by simp; try omega) _))
        · go_wp2_with fail
          refine (HSY.out _).mono ?_
          rintro e w3 ⟨rfl, rfl⟩
          go_wp2_with fail
          go_roundw
          case rel => exact ⟨k + 1, by omega, by omega, by go_num, by trivial, by unfold Hid; rw [hinv.out, runF_yes HY.out.1 HY.out.2]; omega⟩
          case measure => simp [intOf]; omega
      · have HN : Hid (a + N = k) := by
          unfold Hid
          rw [hinv.out, runF_end (by have := HL.out; omega)]
          rfl
        go_wp2_with fail
        refine bodyPost_ret (v := .agg #[.int .i64 3, .int .i64 a, .int .i64 k]) ?_ rfl ⟨?_, ?_⟩
        · simp [results, Try.results26, go_sem, f9]
        · rw [show (k : Int) = (a : Int) + (N : Int) by have := HN.out; omega]
        · repeat (first | (with_reducible exact hk0) | (with_reducible refine Kept.setCell ?_ (by simp; try omega) _))
  · have hns : runF isSpace (l.drop a) = 0 := runF_no HX.out HS.out
    have H2 := fun w' (kk : Kept w w') => rlead_any (some ⟨b, o, none⟩) n c l a w' (h.kept kk) (by omega)
    simp only [Int.toNat_natCast] at H2
    have H3 := fun w' (kk : Kept w w') => rquoted_any (some ⟨b, o, none⟩) n c l a x w' (h.kept kk) hn HX.out
    have hq := quoF_at HX.out
    have hW : (K, N) = if 0 < leadF (l.drop a) then (2, leadF (l.drop a)) else if 0 < quoF (l.drop a) then (4, quoF (l.drop a)) else (8, 1) := by
      rw [← HKN.out]
      unfold wordF
      rw [hns, if_neg (by omega)]
    have hle := leadF_le (l.drop a)
    rw [List.length_drop, HL.out] at hle
    have hqle := quoF_le (l.drop a)
    rw [List.length_drop, HL.out] at hqle
    obtain ⟨L, hL⟩ : ∃ L, leadF (l.drop a) = L := ⟨_, rfl⟩
    obtain ⟨Z, hZ⟩ : ∃ Z, quoF (l.drop a) = Z := ⟨_, rfl⟩
    obtain ⟨F, hF⟩ : ∃ F, closeF x (l.drop (a + 1)) = F := ⟨_, rfl⟩
    rw [hL] at H2 hW hle
    rw [hZ] at hq hW hqle
    rw [hF] at H3 hq
    have C2 := Lib.hid H2
    have C3 := Lib.hid H3
    have HQ := Lib.hid hq
    have HW := Lib.hid hW
    clear H2 H3 hq hW hns hL hZ hF HKN
    have wsL : IntKind.i64.wrap ((a : Int) + L) = (a : Int) + L := IntWalk.i64_in _ (by omega)
    by_cases pL : 0 < L
    · obtain ⟨rfl, rfl⟩ : K = 2 ∧ N = L := by
        have := HW.out
        rw [if_pos pL] at this
        injection this with h1 h2
        exact ⟨h1, h2⟩
      have qL : (0 : Int) < N := by omega
      go_enter Try.func26, Try.ntmps26
      go_upto_region 1 with fail
      have hc1 := hk0.cell hc
      generalize w.alloc (.cells zp 36) = w1 at hk0 B0 hc1 ⊢
      go_wp2_with fail
      refine (HSP.out _).mono ?_
      rintro e w2 ⟨rfl, rfl⟩
      go_wp2_with fail
      refine (C2.out _ hk0).mono ?_
      rintro e w3 ⟨rfl, k3⟩
      have K3 := hk0.trans k3
      have B3 := B0.kept k3
      have f9 := B3.cell
      have g9 := B3.frozen
      go_wp2_with fail
      refine bodyPost_ret (v := .agg #[.int .i64 2, .int .i64 a, .int .i64 ((a : Int) + N)]) ?_ rfl ⟨rfl, ?_⟩
      · simp [results, Try.results26, go_sem, f9]
      · repeat (first | (with_reducible exact K3) | (with_reducible refine Kept.setCell ?_ (by simp; try omega) _))
    obtain rfl : L = 0 := by omega
    by_cases hquo : x = 34 ∨ x = 39
    · have hqt : isQuote x = true := by rcases hquo with rfl | rfl <;> decide
      have hz := HQ.out
      rw [if_pos hqt] at hz
      cases F with
      | none =>
        obtain rfl : Z = 0 := hz
        obtain ⟨rfl, rfl⟩ : K = 8 ∧ N = 1 := by
          have := HW.out
          simp at this
          exact this
        simp only [rquoR] at C3
        rcases hquo with rfl | rfl
        · go_enter Try.func26, Try.ntmps26
          go_upto_region 1 with fail
          have hc1 := hk0.cell hc
          generalize w.alloc (.cells zp 36) = w1 at hk0 B0 hc1 ⊢
          go_wp2_with fail
          refine (HSP.out _).mono ?_
          rintro e w2 ⟨rfl, rfl⟩
          go_wp2_with fail
          refine (C2.out _ hk0).mono ?_
          rintro e w3 ⟨rfl, k3⟩
          have K3 := hk0.trans k3
          have hc3 := k3.cell hc1
          go_wp2_with fail
          refine (C3.out _ K3).mono ?_
          rintro e w4 ⟨rfl, k4⟩
          have K4 := K3.trans k4
          have B4 := (B0.kept k3).kept k4
          have f9 := B4.cell
          have g9 := B4.frozen
          go_wp2_with fail
          refine bodyPost_ret (v := .agg #[.int .i64 8, .int .i64 a, .int .i64 ((a : Int) + 1)]) ?_ rfl ⟨rfl, ?_⟩
          · simp [results, Try.results26, go_sem, f9]
          · repeat (first | (with_reducible exact K4) | (with_reducible refine Kept.setCell ?_ (by simp; try omega) _))
        · go_enter Try.func26, Try.ntmps26
          go_upto_region 1 with fail
          have hc1 := hk0.cell hc
          generalize w.alloc (.cells zp 36) = w1 at hk0 B0 hc1 ⊢
          go_wp2_with fail
          refine (HSP.out _).mono ?_
          rintro e w2 ⟨rfl, rfl⟩
          go_wp2_with fail
          refine (C2.out _ hk0).mono ?_
          rintro e w3 ⟨rfl, k3⟩
          have K3 := hk0.trans k3
          have hc3 := k3.cell hc1
          go_wp2_with fail
          refine (C3.out _ K3).mono ?_
          rintro e w4 ⟨rfl, k4⟩
          have K4 := K3.trans k4
          have B4 := (B0.kept k3).kept k4
          have f9 := B4.cell
          have g9 := B4.frozen
          go_wp2_with fail
          refine bodyPost_ret (v := .agg #[.int .i64 8, .int .i64 a, .int .i64 ((a : Int) + 1)]) ?_ rfl ⟨rfl, ?_⟩
          · simp [results, Try.results26, go_sem, f9]
          · repeat (first | (with_reducible exact K4) | (with_reducible refine Kept.setCell ?_ (by simp; try omega) _))
      | some j =>
        obtain rfl : Z = j + 2 := hz
        obtain ⟨rfl, rfl⟩ : K = 4 ∧ N = j + 2 := by
          have := HW.out
          simp at this
          exact this
        simp only [rquoR] at C3
        have qj : (0 : Int) < ((a + j + 2 : Nat) : Int) := by omega
        rcases hquo with rfl | rfl
        · go_enter Try.func26, Try.ntmps26
          go_upto_region 1 with fail
          have hc1 := hk0.cell hc
          generalize w.alloc (.cells zp 36) = w1 at hk0 B0 hc1 ⊢
          go_wp2_with fail
          refine (HSP.out _).mono ?_
          rintro e w2 ⟨rfl, rfl⟩
          go_wp2_with fail
          refine (C2.out _ hk0).mono ?_
          rintro e w3 ⟨rfl, k3⟩
          have K3 := hk0.trans k3
          have hc3 := k3.cell hc1
          go_wp2_with fail
          refine (C3.out _ K3).mono ?_
          rintro e w4 ⟨rfl, k4⟩
          have K4 := K3.trans k4
          have B4 := (B0.kept k3).kept k4
          have f9 := B4.cell
          have g9 := B4.frozen
          go_wp2_with fail
          refine bodyPost_ret (v := .agg #[.int .i64 4, .int .i64 a, .int .i64 ((a + j + 2 : Nat) : Int)]) ?_ rfl ⟨by rw [show ((a + j + 2 : Nat) : Int) = (a : Int) + ((j + 2 : Nat) : Int) by omega], ?_⟩
          · simp [results, Try.results26, go_sem, f9]
          · repeat (first | (with_reducible exact K4) | (with_reducible refine Kept.setCell ?_ (by simp; try omega) _))
        · go_enter Try.func26, Try.ntmps26
          go_upto_region 1 with fail
          have hc1 := hk0.cell hc
          generalize w.alloc (.cells zp 36) = w1 at hk0 B0 hc1 ⊢
          go_wp2_with fail
          refine (HSP.out _).mono ?_
          rintro e w2 ⟨rfl, rfl⟩
          go_wp2_with fail
          refine (C2.out _ hk0).mono ?_
          rintro e w3 ⟨rfl, k3⟩
          have K3 := hk0.trans k3
          have hc3 := k3.cell hc1
          go_wp2_with fail
          refine (C3.out _ K3).mono ?_
          rintro e w4 ⟨rfl, k4⟩
          have K4 := K3.trans k4
          have B4 := (B0.kept k3).kept k4
          have f9 := B4.cell
          have g9 := B4.frozen
          go_wp2_with fail
          refine bodyPost_ret (v := .agg #[.int .i64 4, .int .i64 a, .int .i64 ((a + j + 2 : Nat) : Int)]) ?_ rfl ⟨by rw [show ((a + j + 2 : Nat) : Int) = (a : Int) + ((j + 2 : Nat) : Int) by omega], ?_⟩
          · simp [results, Try.results26, go_sem, f9]
          · repeat (first | (with_reducible exact K4) | (with_reducible refine Kept.setCell ?_ (by simp; try omega) _))
    · have h34 : (x == 34) = false := by simp; omega
      have h39 : (x == 39) = false := by simp; omega
      have hnq : ¬ isQuote x = true := by simp [isQuote, h34, h39]
      obtain rfl : Z = 0 := by
        have := HQ.out
        rw [if_neg hnq] at this
        exact this
      obtain ⟨rfl, rfl⟩ : K = 8 ∧ N = 1 := by
        have := HW.out
        simp at this
        exact this
      clear hquo hnq
      go_enter Try.func26, Try.ntmps26
      go_upto_region 1 with fail
      have hc1 := hk0.cell hc
      generalize w.alloc (.cells zp 36) = w1 at hk0 B0 hc1 ⊢
      go_wp2_with fail
      refine (HSP.out _).mono ?_
      rintro e w2 ⟨rfl, rfl⟩
      go_wp2_with fail
      refine (C2.out _ hk0).mono ?_
      rintro e w3 ⟨rfl, k3⟩
      have K3 := hk0.trans k3
      have B3 := B0.kept k3
      have f9 := B3.cell
      have g9 := B3.frozen
      have hc3 := k3.cell hc1
      go_wp2_with fail
      refine bodyPost_ret (v := .agg #[.int .i64 8, .int .i64 a, .int .i64 ((a : Int) + 1)]) ?_ rfl ⟨rfl, ?_⟩
      · simp [results, Try.results26, go_sem, f9]
      · repeat (first | (with_reducible exact K3) | (with_reducible refine Kept.setCell ?_ (by simp; try omega) _))
end Go.Proofs.Ytnfcfpcpfnhcnaa
