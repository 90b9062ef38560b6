/- Layer 7 at a &, the document's answer: ref, Next: walked. -/
import Derived.Test.YtennpgdoepdboaaRefsF
namespace Go.Proofs.Ytennpgdoepdboaa
open Go.RowKit
attribute [local go_sem ↓] Go.wp_at_zero Go.wp_at_succ

theorem dig16 (x : Int) : decide (0 ≤ rDig x 16) = hexB x := by
  unfold rDig hexB digB
  rw [Bool.eq_iff_iff]
  simp only [decide_eq_true_eq, Bool.or_eq_true, Bool.and_eq_true]
  (repeat' split) <;> omega
theorem dig10 (x : Int) : decide (0 ≤ rDig x 10) = digB x := by
  unfold rDig digB
  rw [Bool.eq_iff_iff]
  simp only [decide_eq_true_eq, Bool.and_eq_true]
  (repeat' split) <;> omega
theorem runF_congr {p q : Int → Bool} (h : ∀ x, p x = q x) (s : List Int) : runF p s = runF q s := by
  rw [show p = q from funext h]

set_option maxHeartbeats 16000000 in
theorem rref_any (A : Option Addr) (n c : Nat) (l : List Int) (a : Nat) (w : World) (h : Sl w 1 A n c (l.map (Value.int .i32))) (hn : n ≤ 1000000) (ha : a < n) (h38 : l[a]? = some 38) (hr : Rn l) :
    Calls Try.prog 46 #[.slice A n c, .int .i64 a] w fun e w' => e = .returned (.agg (tokC l a)) ∧ Kept w w' := by
  have hcap := h.cap
  have hmax := h.max
  have hl := h.llen1
  have g : ∀ i, (l.drop a)[i]? = l[a + i]? := fun i => List.getElem?_drop
  have ed : ∀ i, (l.drop a).drop i = l.drop (a + i) := fun i => List.drop_drop ..
  have e38 : l.drop a = 38 :: l.drop (a + 1) := drop_get h38
  have hdef : refT (l.drop a) = if l[a + 1]? = some 35 then
    (if l[a + 2]? = some 120 then (if 0 < runF hexB (l.drop (a + 3)) ∧ l[a + 3 + runF hexB (l.drop (a + 3))]? = some 59 then (3, runF hexB (l.drop (a + 3)) + 4) else (11, 1))
    else (if 0 < runF digB (l.drop (a + 2)) ∧ l[a + 2 + runF digB (l.drop (a + 2))]? = some 59 then (3, runF digB (l.drop (a + 2)) + 3) else (11, 1)))
  else if 0 < leadF (l.drop (a + 1)) ∧ l[a + 1 + leadF (l.drop (a + 1))]? = some 59 then (2, leadF (l.drop (a + 1)) + 2) else (11, 1) := by
    unfold refT
    rw [g, g, ed, ed, ed, g, g, g, ← Nat.add_assoc, ← Nat.add_assoc, ← Nat.add_assoc]
  have st1 : ∀ w', Kept w w' → Calls Try.prog 40 #[.slice A n c, .int .i64 a, .string ⟨#[38, 35, 120]⟩] w' fun e w'' => e = .returned (.bool (startsF [38, 35, 120] (l.drop a))) ∧ Kept w' w'' := by
    intro w' hk'
    have := rstarts_any A n c l a ⟨#[38, 35, 120]⟩ w' (h.kept hk') (by decide) (by decide) hn (by omega) (by decide) hr
    rw [show strI ⟨#[38, 35, 120]⟩ = [38, 35, 120] from rfl] at this
    exact this
  have st2 : ∀ w', Kept w w' → Calls Try.prog 40 #[.slice A n c, .int .i64 a, .string ⟨#[38, 35]⟩] w' fun e w'' => e = .returned (.bool (startsF [38, 35] (l.drop a))) ∧ Kept w' w'' := by
    intro w' hk'
    have := rstarts_any A n c l a ⟨#[38, 35]⟩ w' (h.kept hk') (by decide) (by decide) hn (by omega) (by decide) hr
    rw [show strI ⟨#[38, 35]⟩ = [38, 35] from rfl] at this
    exact this
  have lead1 : ∀ w', Kept w w' → Calls Try.prog 61 #[.slice A n c, .int .i64 ((a : Int) + 1)] w' fun e w'' => e = .returned (.int .i64 (leadF (l.drop (a + 1)))) ∧ Kept w' w'' := by
    intro w' hk'
    have := rlead_any A n c l ((a : Int) + 1) w' (h.kept hk') (by omega)
    rw [show ((a : Int) + 1).toNat = a + 1 by omega] at this
    exact this
  have w1 : IntKind.i64.wrap ((a : Int) + 1) = (a : Int) + 1 := IntWalk.i64_in _ (by omega)
  have w2 : IntKind.i64.wrap ((a : Int) + 2) = (a : Int) + 2 := IntWalk.i64_in _ (by omega)
  have w3 : IntKind.i64.wrap ((a : Int) + 3) = (a : Int) + 3 := IntWalk.i64_in _ (by omega)
  have HR := Lib.hid hr
  clear g ed hr
  unfold tokC
  obtain ⟨HTT, hHTT⟩ : ∃ z, refT (l.drop a) = z := ⟨_, rfl⟩
  rw [hHTT] at hdef ⊢
  clear hHTT
  have hk0 : Kept w (w.alloc (.cells #[.int .i64 0, .int .i64 0, .int .i64 0, .bool false] 49)) := (Kept.refl _).alloc _
  have B0 := Blk.new w #[.int .i64 0, .int .i64 0, .int .i64 0, .bool false] 49
  by_cases h35 : l[a + 1]? = some 35
  · rw [if_pos h35] at hdef
    have e35 : l.drop (a + 1) = 35 :: l.drop (a + 2) := drop_get h35
    have b2 : startsF [38, 35] (l.drop a) = true := by
      rw [e38, e35]
      rfl
    have hk35 : leadF (l.drop (a + 1)) = 0 := by
      rw [e35]
      unfold leadF
      rw [if_neg (by simp; decide)]
    rw [b2] at st2
    rw [hk35] at lead1
    have LD0 := Lib.hid lead1
    have S2 := Lib.hid st2
    clear lead1 st2 b2 hk35
    by_cases h120 : l[a + 2]? = some 120
    · rw [if_pos h120] at hdef
      have b1 : startsF [38, 35, 120] (l.drop a) = true := by
        rw [e38, e35, drop_get h120]
        rfl
      rw [b1] at st1
      have S1 := Lib.hid st1
      obtain ⟨X, hX0⟩ : ∃ z, runF hexB (l.drop (a + 3)) = z := ⟨_, rfl⟩
      rw [hX0] at hdef
      have HX := Lib.hid hX0
      have HT0 := Lib.hid hdef
      clear st1 b1 hX0 hdef e35 e38 h35 h120 h38
      go_enter Try.func46, Try.ntmps46
      go_wp2_with fail
      refine (S2.out _ hk0).mono ?_
      rintro e wa ⟨rfl, ka⟩
      have hka := hk0.trans ka
      have Ba := B0.kept ka
      go_wp2_with fail
      refine (S1.out _ hka).mono ?_
      rintro e wb ⟨rfl, kb⟩
      have hk2 := hka.trans kb
      have B2 := Ba.kept kb
      clear B0 hk0 ka hka Ba kb
      have hat : (((a + 3) : Nat) : Int) = (a : Int) + 3 := by omega
      go_wp2_with fail
      go_loopw [7] (fun u wr => ∃ k : Nat, (a + 3) + k ≤ max n (a + 3) ∧ u = .int .i64 ((a : Int) + 3 + k) ∧ Kept w wr ∧ Blk wr w.heap.size #[.int .i64 0, .int .i64 0, .int .i64 0, .bool false] 49 ∧ Hid (X = k + runF hexB (l.drop ((a + 3) + k)))) (fun u _ => n + 3 + 5 - (intOf u).toNat + a)
      case atStart => exact ⟨0, by omega, by simp, hk2, B2, by unfold Hid; rw [Nat.zero_add, Nat.add_zero]; exact HX.out.symm⟩
      case round =>
        obtain ⟨k, hkn, rfl, hk3, B3, hinv⟩ := hrel
        have wi : IntKind.i64.wrap ((a : Int) + 3 + k + 1) = (a : Int) + 3 + k + 1 := IntWalk.i64_in _ (by omega)
        by_cases hp : (a + 3) + k < n
        · obtain ⟨b, o, x, rfl, hx, hcx, hb⟩ := (h.kept hk3).oneb (k := (a + 3) + k) hp
          have hxr := HR.out x (List.mem_of_getElem? hx)
          have l0 : (0 : Int) ≤ (a : Int) + 3 + k := by omega
          have l1 : (a : Int) + 3 + k < n := by omega
          have l2 : ((a : Int) + 3 + k).toNat = (a + 3) + k := by omega
          have d1 : decide ((a : Int) + 3 + k < n) = true := by simp; omega
          have hdig := fun w' => rdig_any x 16 hxr.1 hxr.2 w'
          have hpx := dig16 x
          obtain ⟨d, hd⟩ : ∃ z, rDig x 16 = z := ⟨_, rfl⟩
          rw [hd] at hpx hdig
          have HDG := Lib.hid hdig
          clear hdig hd
          cases hb2 : hexB x
          · have hX : X = k := by rw [hinv.out, runF_no hx hb2]; rfl
            have dd : decide (0 ≤ d) = false := by rw [hpx, hb2]
            by_cases hk0 : 0 < k
            · have q0 : decide ((a : Int) + 3 < (a : Int) + 3 + k) = true := by simp; omega
              by_cases h59 : x = 59
              · subst h59
                have hT : HTT = (3, X + 3 + 1) := by
                  rw [HT0.out, if_pos ⟨by omega, by rw [hX]; exact hx⟩]
                have HT := Lib.hid hT
                have hXk := hX.symm
                subst hXk
                clear hx hpx hb2 hT
                go_wp2_with fail
                refine (HDG.out _).mono ?_
                rintro e wd ⟨rfl, rfl⟩
                have f9 := B3.cell
                have g9 := B3.frozen
                go_wp2_with fail
                refine bodyPost_ret (v := .agg #[.int .i64 3, .int .i64 a, .int .i64 ((a : Int) + 3 + k + 1), .bool true]) ?_ rfl ⟨?_, ?_⟩
                · simp [results, Try.results46, go_sem, f9]
                · rw [HT.out]
                  simp
                  try omega
                · repeat (first | (with_reducible exact hk3) | (with_reducible refine Kept.setCell ?_ (by simp; try omega) _) | (with_reducible refine Kept.drew ?_))
              · have e59 : (x == 59) = false := by simpa using h59
                have hT : HTT = (11, 1) := by
                  rw [HT0.out, if_neg (fun hc => h59 (by have := hc.2; rw [hX, hx] at this; injection this))]
                have HT := Lib.hid hT
                have hXk := hX.symm
                subst hXk
                clear hx hpx hb2 hT h59
                go_wp2_with fail
                refine (HDG.out _).mono ?_
                rintro e wd ⟨rfl, rfl⟩
                go_wp2_with fail
                refine (LD0.out _ hk3).mono ?_
                rintro e wl ⟨rfl, kl⟩
                have hkl := hk3.trans kl
                have Bl := B3.kept kl
                have f9 := Bl.cell
                have g9 := Bl.frozen
                go_wp2_with fail
                refine bodyPost_ret (v := .agg #[.int .i64 11, .int .i64 a, .int .i64 ((a : Int) + 1), .bool false]) ?_ rfl ⟨?_, ?_⟩
                · simp [results, Try.results46, go_sem, f9]
                · rw [HT.out]
                  simp
                  try omega
                · repeat (first | (with_reducible exact hkl) | (with_reducible refine Kept.setCell ?_ (by simp; try omega) _) | (with_reducible refine Kept.drew ?_))
            · have q0 : decide ((a : Int) + 3 < (a : Int) + 3 + k) = false := by simp; omega
              have hT : HTT = (11, 1) := by rw [HT0.out, if_neg (fun hc => by omega)]
              have HT := Lib.hid hT
              have hXk := hX.symm
              subst hXk
              clear hx hpx hb2 hT
              go_wp2_with fail
              refine (HDG.out _).mono ?_
              rintro e wd ⟨rfl, rfl⟩
              go_wp2_with fail
              refine (LD0.out _ hk3).mono ?_
              rintro e wl ⟨rfl, kl⟩
              have hkl := hk3.trans kl
              have Bl := B3.kept kl
              have f9 := Bl.cell
              have g9 := Bl.frozen
              go_wp2_with fail
              refine bodyPost_ret (v := .agg #[.int .i64 11, .int .i64 a, .int .i64 ((a : Int) + 1), .bool false]) ?_ rfl ⟨?_, ?_⟩
              · simp [results, Try.results46, go_sem, f9]
              · rw [HT.out]
                simp
                try omega
              · repeat (first | (with_reducible exact hkl) | (with_reducible refine Kept.setCell ?_ (by simp; try omega) _) | (with_reducible refine Kept.drew ?_))
          · have dd : decide (0 ≤ d) = true := by rw [hpx, hb2]
            have HY := Lib.hid (runF_yes hx hb2)
            clear hx hpx hb2
            go_wp2_with fail
            refine (HDG.out _).mono ?_
            rintro e wd ⟨rfl, rfl⟩
            go_wp2_with fail
            go_roundw
            case rel => exact ⟨k + 1, by omega, by simp; omega, hk3, B3, by unfold Hid; rw [hinv.out, HY.out, Nat.add_assoc (a + 3) k 1]; omega⟩
            case measure =>
              simp [intOf]
              omega
        · have d1 : decide ((a : Int) + 3 + k < n) = false := by simp; omega
          have hX : X = k := by rw [hinv.out, runF_end (by omega)]; rfl
          have hT : HTT = (11, 1) := by
            rw [HT0.out, if_neg (fun hc => by have := (List.getElem?_eq_some_iff.1 hc.2).1; omega)]
          have HT := Lib.hid hT
          have hXk := hX.symm
          subst hXk
          clear hT
          by_cases hk0 : 0 < k
          · have q0 : decide ((a : Int) + 3 < (a : Int) + 3 + k) = true := by simp; omega
            go_wp2_with fail
            refine (LD0.out _ hk3).mono ?_
            rintro e wl ⟨rfl, kl⟩
            have hkl := hk3.trans kl
            have Bl := B3.kept kl
            have f9 := Bl.cell
            have g9 := Bl.frozen
            go_wp2_with fail
            refine bodyPost_ret (v := .agg #[.int .i64 11, .int .i64 a, .int .i64 ((a : Int) + 1), .bool false]) ?_ rfl ⟨?_, ?_⟩
            · simp [results, Try.results46, go_sem, f9]
            · rw [HT.out]
              simp
              try omega
            · repeat (first | (with_reducible exact hkl) | (with_reducible refine Kept.setCell ?_ (by simp; try omega) _) | (with_reducible refine Kept.drew ?_))
          · have q0 : decide ((a : Int) + 3 < (a : Int) + 3 + k) = false := by simp; omega
            go_wp2_with fail
            refine (LD0.out _ hk3).mono ?_
            rintro e wl ⟨rfl, kl⟩
            have hkl := hk3.trans kl
            have Bl := B3.kept kl
            have f9 := Bl.cell
            have g9 := Bl.frozen
            go_wp2_with fail
            refine bodyPost_ret (v := .agg #[.int .i64 11, .int .i64 a, .int .i64 ((a : Int) + 1), .bool false]) ?_ rfl ⟨?_, ?_⟩
            · simp [results, Try.results46, go_sem, f9]
            · rw [HT.out]
              simp
              try omega
            · repeat (first | (with_reducible exact hkl) | (with_reducible refine Kept.setCell ?_ (by simp; try omega) _) | (with_reducible refine Kept.drew ?_))
    · rw [if_neg h120] at hdef
      have b1 : startsF [38, 35, 120] (l.drop a) = false := by
        rw [e38, e35]
        cases hd : l.drop (a + 2) with
        | nil => rfl
        | cons y t =>
          have hy : l[a + 2]? = some y := by
            have := congrArg (fun z => z[0]?) hd
            simpa using this
          have : y ≠ 120 := fun e => h120 (by rw [hy, e])
          rw [startsF_cons, startsF_cons, startsF_cons]
          have h2 : ((120 : Int) == y) = false := by simpa using fun e => this e.symm
          rw [h2]
          rfl
      rw [b1] at st1
      have S1 := Lib.hid st1
      obtain ⟨X, hX0⟩ : ∃ z, runF digB (l.drop (a + 2)) = z := ⟨_, rfl⟩
      rw [hX0] at hdef
      have HX := Lib.hid hX0
      have HT0 := Lib.hid hdef
      clear st1 b1 hX0 hdef e35 e38 h35 h120 h38
      go_enter Try.func46, Try.ntmps46
      go_wp2_with fail
      refine (S2.out _ hk0).mono ?_
      rintro e wa ⟨rfl, ka⟩
      have hka := hk0.trans ka
      have Ba := B0.kept ka
      go_wp2_with fail
      refine (S1.out _ hka).mono ?_
      rintro e wb ⟨rfl, kb⟩
      have hk2 := hka.trans kb
      have B2 := Ba.kept kb
      clear B0 hk0 ka hka Ba kb
      have hat : (((a + 2) : Nat) : Int) = (a : Int) + 2 := by omega
      go_wp2_with fail
      go_loopw [7] (fun u wr => ∃ k : Nat, (a + 2) + k ≤ max n (a + 2) ∧ u = .int .i64 ((a : Int) + 2 + k) ∧ Kept w wr ∧ Blk wr w.heap.size #[.int .i64 0, .int .i64 0, .int .i64 0, .bool false] 49 ∧ Hid (X = k + runF digB (l.drop ((a + 2) + k)))) (fun u _ => n + 2 + 5 - (intOf u).toNat + a)
      case atStart => exact ⟨0, by omega, by simp, hk2, B2, by unfold Hid; rw [Nat.zero_add, Nat.add_zero]; exact HX.out.symm⟩
      case round =>
        obtain ⟨k, hkn, rfl, hk3, B3, hinv⟩ := hrel
        have wi : IntKind.i64.wrap ((a : Int) + 2 + k + 1) = (a : Int) + 2 + k + 1 := IntWalk.i64_in _ (by omega)
        by_cases hp : (a + 2) + k < n
        · obtain ⟨b, o, x, rfl, hx, hcx, hb⟩ := (h.kept hk3).oneb (k := (a + 2) + k) hp
          have hxr := HR.out x (List.mem_of_getElem? hx)
          have l0 : (0 : Int) ≤ (a : Int) + 2 + k := by omega
          have l1 : (a : Int) + 2 + k < n := by omega
          have l2 : ((a : Int) + 2 + k).toNat = (a + 2) + k := by omega
          have d1 : decide ((a : Int) + 2 + k < n) = true := by simp; omega
          have hdig := fun w' => rdig_any x 10 hxr.1 hxr.2 w'
          have hpx := dig10 x
          obtain ⟨d, hd⟩ : ∃ z, rDig x 10 = z := ⟨_, rfl⟩
          rw [hd] at hpx hdig
          have HDG := Lib.hid hdig
          clear hdig hd
          cases hb2 : digB x
          · have hX : X = k := by rw [hinv.out, runF_no hx hb2]; rfl
            have dd : decide (0 ≤ d) = false := by rw [hpx, hb2]
            by_cases hk0 : 0 < k
            · have q0 : decide ((a : Int) + 2 < (a : Int) + 2 + k) = true := by simp; omega
              by_cases h59 : x = 59
              · subst h59
                have hT : HTT = (3, X + 2 + 1) := by
                  rw [HT0.out, if_pos ⟨by omega, by rw [hX]; exact hx⟩]
                have HT := Lib.hid hT
                have hXk := hX.symm
                subst hXk
                clear hx hpx hb2 hT
                go_wp2_with fail
                refine (HDG.out _).mono ?_
                rintro e wd ⟨rfl, rfl⟩
                have f9 := B3.cell
                have g9 := B3.frozen
                go_wp2_with fail
                refine bodyPost_ret (v := .agg #[.int .i64 3, .int .i64 a, .int .i64 ((a : Int) + 2 + k + 1), .bool true]) ?_ rfl ⟨?_, ?_⟩
                · simp [results, Try.results46, go_sem, f9]
                · rw [HT.out]
                  simp
                  try omega
                · repeat (first | (with_reducible exact hk3) | (with_reducible refine Kept.setCell ?_ (by simp; try omega) _) | (with_reducible refine Kept.drew ?_))
              · have e59 : (x == 59) = false := by simpa using h59
                have hT : HTT = (11, 1) := by
                  rw [HT0.out, if_neg (fun hc => h59 (by have := hc.2; rw [hX, hx] at this; injection this))]
                have HT := Lib.hid hT
                have hXk := hX.symm
                subst hXk
                clear hx hpx hb2 hT h59
                go_wp2_with fail
                refine (HDG.out _).mono ?_
                rintro e wd ⟨rfl, rfl⟩
                go_wp2_with fail
                refine (LD0.out _ hk3).mono ?_
                rintro e wl ⟨rfl, kl⟩
                have hkl := hk3.trans kl
                have Bl := B3.kept kl
                have f9 := Bl.cell
                have g9 := Bl.frozen
                go_wp2_with fail
                refine bodyPost_ret (v := .agg #[.int .i64 11, .int .i64 a, .int .i64 ((a : Int) + 1), .bool false]) ?_ rfl ⟨?_, ?_⟩
                · simp [results, Try.results46, go_sem, f9]
                · rw [HT.out]
                  simp
                  try omega
                · repeat (first | (with_reducible exact hkl) | (with_reducible refine Kept.setCell ?_ (by simp; try omega) _) | (with_reducible refine Kept.drew ?_))
            · have q0 : decide ((a : Int) + 2 < (a : Int) + 2 + k) = false := by simp; omega
              have hT : HTT = (11, 1) := by rw [HT0.out, if_neg (fun hc => by omega)]
              have HT := Lib.hid hT
              have hXk := hX.symm
              subst hXk
              clear hx hpx hb2 hT
              go_wp2_with fail
              refine (HDG.out _).mono ?_
              rintro e wd ⟨rfl, rfl⟩
              go_wp2_with fail
              refine (LD0.out _ hk3).mono ?_
              rintro e wl ⟨rfl, kl⟩
              have hkl := hk3.trans kl
              have Bl := B3.kept kl
              have f9 := Bl.cell
              have g9 := Bl.frozen
              go_wp2_with fail
              refine bodyPost_ret (v := .agg #[.int .i64 11, .int .i64 a, .int .i64 ((a : Int) + 1), .bool false]) ?_ rfl ⟨?_, ?_⟩
              · simp [results, Try.results46, go_sem, f9]
              · rw [HT.out]
                simp
                try omega
              · repeat (first | (with_reducible exact hkl) | (with_reducible refine Kept.setCell ?_ (by simp; try omega) _) | (with_reducible refine Kept.drew ?_))
          · have dd : decide (0 ≤ d) = true := by rw [hpx, hb2]
            have HY := Lib.hid (runF_yes hx hb2)
            clear hx hpx hb2
            go_wp2_with fail
            refine (HDG.out _).mono ?_
            rintro e wd ⟨rfl, rfl⟩
            go_wp2_with fail
            go_roundw
            case rel => exact ⟨k + 1, by omega, by simp; omega, hk3, B3, by unfold Hid; rw [hinv.out, HY.out, Nat.add_assoc (a + 2) k 1]; omega⟩
            case measure =>
              simp [intOf]
              omega
        · have d1 : decide ((a : Int) + 2 + k < n) = false := by simp; omega
          have hX : X = k := by rw [hinv.out, runF_end (by omega)]; rfl
          have hT : HTT = (11, 1) := by
            rw [HT0.out, if_neg (fun hc => by have := (List.getElem?_eq_some_iff.1 hc.2).1; omega)]
          have HT := Lib.hid hT
          have hXk := hX.symm
          subst hXk
          clear hT
          by_cases hk0 : 0 < k
          · have q0 : decide ((a : Int) + 2 < (a : Int) + 2 + k) = true := by simp; omega
            go_wp2_with fail
            refine (LD0.out _ hk3).mono ?_
            rintro e wl ⟨rfl, kl⟩
            have hkl := hk3.trans kl
            have Bl := B3.kept kl
            have f9 := Bl.cell
            have g9 := Bl.frozen
            go_wp2_with fail
            refine bodyPost_ret (v := .agg #[.int .i64 11, .int .i64 a, .int .i64 ((a : Int) + 1), .bool false]) ?_ rfl ⟨?_, ?_⟩
            · simp [results, Try.results46, go_sem, f9]
            · rw [HT.out]
              simp
              try omega
            · repeat (first | (with_reducible exact hkl) | (with_reducible refine Kept.setCell ?_ (by simp; try omega) _) | (with_reducible refine Kept.drew ?_))
          · have q0 : decide ((a : Int) + 2 < (a : Int) + 2 + k) = false := by simp; omega
            go_wp2_with fail
            refine (LD0.out _ hk3).mono ?_
            rintro e wl ⟨rfl, kl⟩
            have hkl := hk3.trans kl
            have Bl := B3.kept kl
            have f9 := Bl.cell
            have g9 := Bl.frozen
            go_wp2_with fail
            refine bodyPost_ret (v := .agg #[.int .i64 11, .int .i64 a, .int .i64 ((a : Int) + 1), .bool false]) ?_ rfl ⟨?_, ?_⟩
            · simp [results, Try.results46, go_sem, f9]
            · rw [HT.out]
              simp
              try omega
            · repeat (first | (with_reducible exact hkl) | (with_reducible refine Kept.setCell ?_ (by simp; try omega) _) | (with_reducible refine Kept.drew ?_))
  · rw [if_neg h35] at hdef
    have b2 : startsF [38, 35] (l.drop a) = false := by
      rw [e38]
      cases hd : l.drop (a + 1) with
      | nil => rfl
      | cons y s =>
        have hy : l[a + 1]? = some y := by
          have := congrArg (fun z => z[0]?) hd
          simpa using this
        have : y ≠ 35 := fun e => h35 (by rw [hy, e])
        rw [startsF_cons, startsF_cons]
        have h2 : ((35 : Int) == y) = false := by simpa using fun e => this e.symm
        rw [h2]
        rfl
    rw [b2] at st2
    have hkle := runF_le nameChar (l.drop (a + 1))
    rw [List.length_drop] at hkle
    have hK2 : leadF (l.drop (a + 1)) ≤ n := by unfold leadF; split <;> omega
    obtain ⟨K, hK⟩ : ∃ z, leadF (l.drop (a + 1)) = z := ⟨_, rfl⟩
    rw [hK] at lead1 hdef hK2
    have LD0 := Lib.hid lead1
    have S2 := Lib.hid st2
    have HT0 := Lib.hid hdef
    have w4 : IntKind.i64.wrap ((a : Int) + 1 + K) = (a : Int) + 1 + K := IntWalk.i64_in _ (by omega)
    have w5 : IntKind.i64.wrap ((a : Int) + K) = (a : Int) + K := IntWalk.i64_in _ (by omega)
    have w6 : IntKind.i64.wrap ((a : Int) + K + 2) = (a : Int) + K + 2 := IntWalk.i64_in _ (by omega)
    clear st1 lead1 st2 b2 hK hdef hkle e38 h35 h38
    go_enter Try.func46, Try.ntmps46
    go_wp2_with fail
    refine (S2.out _ hk0).mono ?_
    rintro e wa ⟨rfl, ka⟩
    have hka := hk0.trans ka
    have Ba := B0.kept ka
    go_wp2_with fail
    refine (LD0.out _ hka).mono ?_
    rintro e wb ⟨rfl, kb⟩
    have hk2 := hka.trans kb
    have B2 := Ba.kept kb
    clear B0 hk0 ka hka Ba kb
    by_cases hk0 : 0 < K
    · have q0 : decide ((0 : Int) < K) = true := by simpa using hk0
      by_cases hp : a + 1 + K < n
      · obtain ⟨b, o, x, rfl, hx, hcx, hb⟩ := (h.kept hk2).oneb (k := a + 1 + K) hp
        have l0 : (0 : Int) ≤ (a : Int) + 1 + K := by omega
        have l1 : (a : Int) + 1 + K < n := by omega
        have l2 : ((a : Int) + 1 + K).toNat = a + 1 + K := by omega
        have d1 : decide ((a : Int) + 1 + K < n) = true := by simp; omega
        by_cases h59 : x = 59
        · subst h59
          have hT : HTT = (2, K + 2) := by rw [HT0.out, if_pos ⟨hk0, hx⟩]
          have HT := Lib.hid hT
          clear hx hT
          have f9 := B2.cell
          have g9 := B2.frozen
          go_wp2_with fail
          refine bodyPost_ret (v := .agg #[.int .i64 2, .int .i64 a, .int .i64 ((a : Int) + K + 2), .bool true]) ?_ rfl ⟨?_, ?_⟩
          · simp [results, Try.results46, go_sem, f9]
          · rw [HT.out]
            simp
            try omega
          · repeat (first | (with_reducible exact hk2) | (with_reducible refine Kept.setCell ?_ (by simp; try omega) _) | (with_reducible refine Kept.drew ?_))
        · have e59 : (x == 59) = false := by simpa using h59
          have hT : HTT = (11, 1) := by
            rw [HT0.out, if_neg (fun hc => h59 (by have := hc.2; rw [hx] at this; injection this))]
          have HT := Lib.hid hT
          clear hx hT h59
          have f9 := B2.cell
          have g9 := B2.frozen
          go_wp2_with fail
          refine bodyPost_ret (v := .agg #[.int .i64 11, .int .i64 a, .int .i64 ((a : Int) + 1), .bool false]) ?_ rfl ⟨?_, ?_⟩
          · simp [results, Try.results46, go_sem, f9]
          · rw [HT.out]
            simp
            try omega
          · repeat (first | (with_reducible exact hk2) | (with_reducible refine Kept.setCell ?_ (by simp; try omega) _) | (with_reducible refine Kept.drew ?_))
      · have d1 : decide ((a : Int) + 1 + K < n) = false := by simp; omega
        have hT : HTT = (11, 1) := by
          rw [HT0.out, if_neg (fun hc => by have := (List.getElem?_eq_some_iff.1 hc.2).1; omega)]
        have HT := Lib.hid hT
        clear hT
        have f9 := B2.cell
        have g9 := B2.frozen
        go_wp2_with fail
        refine bodyPost_ret (v := .agg #[.int .i64 11, .int .i64 a, .int .i64 ((a : Int) + 1), .bool false]) ?_ rfl ⟨?_, ?_⟩
        · simp [results, Try.results46, go_sem, f9]
        · rw [HT.out]
          simp
          try omega
        · repeat (first | (with_reducible exact hk2) | (with_reducible refine Kept.setCell ?_ (by simp; try omega) _) | (with_reducible refine Kept.drew ?_))
    · have q0 : decide ((0 : Int) < K) = false := by simp; omega
      have hT : HTT = (11, 1) := by rw [HT0.out, if_neg (fun hc => hk0 hc.1)]
      have HT := Lib.hid hT
      clear hT
      have f9 := B2.cell
      have g9 := B2.frozen
      go_wp2_with fail
      refine bodyPost_ret (v := .agg #[.int .i64 11, .int .i64 a, .int .i64 ((a : Int) + 1), .bool false]) ?_ rfl ⟨?_, ?_⟩
      · simp [results, Try.results46, go_sem, f9]
      · rw [HT.out]
        simp
        try omega
      · repeat (first | (with_reducible exact hk2) | (with_reducible refine Kept.setCell ?_ (by simp; try omega) _) | (with_reducible refine Kept.drew ?_))
end Go.Proofs.Ytennpgdoepdboaa
