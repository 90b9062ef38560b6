/- Layer 7: plain, markup, Next: walked. Printed by gen_lexd.py. -/
import Derived.Test.YtennpgdoepdboaaLexC
import Derived.Test.YtennpgdoepdboaaRefsE
namespace Go.Proofs.Ytennpgdoepdboaa
open Go.RowKit
attribute [local go_sem ↓] Go.wp_at_zero Go.wp_at_succ

theorem lplain_any (x : Int) (w : World) : Calls Try.prog 50 #[.int .i32 x] w fun e w' => e = .returned (.bool (plainR x)) ∧ Kept w w' := by
  by_cases h60 : x = 60
  · subst h60
    go_enter Try.func50, Try.ntmps50
    go_wp2
    go_ret
    exact ⟨ret_bool rfl, Kept.refl _⟩
  · have d60 : (x == 60) = false := by simpa using h60
    by_cases h38 : x = 38
    · subst h38
      go_enter Try.func50, Try.ntmps50
      go_wp2
      go_ret
      exact ⟨ret_bool rfl, Kept.refl _⟩
    · have d38 : (x == 38) = false := by simpa using h38
      by_cases h1 : x = -1
      · subst h1
        go_enter Try.func50, Try.ntmps50
        go_wp2
        go_ret
        exact ⟨ret_bool rfl, Kept.refl _⟩
      · have d1 : (x == -1) = false := by simpa using h1
        have HV := Lib.hid (show plainR x = true by simp [plainR, h60, h38, h1])
        go_enter Try.func50, Try.ntmps50
        go_wp2
        go_ret
        exact ⟨ret_bool (by rw [HV.out]; exact HV.out), Kept.refl _⟩

/-- A token's parts. -/
theorem tkV_parts (T : Tok) (a : Nat) : ∃ tk tt tb, tkV T a = .agg #[.int .i64 tk, .int .i64 a, .int .i64 tt, .bool tb] := ⟨_, _, _, rfl⟩

set_option maxHeartbeats 8000000 in
theorem lmarkup_any (A : Option Addr) (n c : Nat) (l : List Int) (a : Nat) (w : World) (h : Sl w 1 A n c (l.map (Value.int .i32))) (hn : n ≤ 1000000) (ha : a < n) :
    Calls Try.prog 48 #[.slice A n c, .int .i64 a] w fun e w' => e = .returned (tkV (markTk (l.drop a)) a) ∧ Kept w w' := by
  have hcap := h.cap
  have hmax := h.max
  have hl := h.llen1
  have hc0 := fun w' (hk : Kept w w') => starts_any A n c l a ⟨#[60, 33, 45, 45]⟩ w' (h.kept hk) (by decide) (by decide) hn (by omega) (by decide)
  rw [show strI ⟨#[60, 33, 45, 45]⟩ = cmt from rfl] at hc0
  have hs0 := startsF_len (p := cmt) (s := l.drop a)
  rw [List.length_drop, hl] at hs0
  have hc1 := fun w' (hk : Kept w w') => starts_any A n c l a ⟨#[60, 33, 91, 67, 68, 65, 84, 65, 91]⟩ w' (h.kept hk) (by decide) (by decide) hn (by omega) (by decide)
  rw [show strI ⟨#[60, 33, 91, 67, 68, 65, 84, 65, 91]⟩ = cda from rfl] at hc1
  have hs1 := startsF_len (p := cda) (s := l.drop a)
  rw [List.length_drop, hl] at hs1
  have hc2 := fun w' (hk : Kept w w') => starts_any A n c l a ⟨#[60, 63]⟩ w' (h.kept hk) (by decide) (by decide) hn (by omega) (by decide)
  rw [show strI ⟨#[60, 63]⟩ = pis from rfl] at hc2
  have hs2 := startsF_len (p := pis) (s := l.drop a)
  rw [List.length_drop, hl] at hs2
  have hc3 := fun w' (hk : Kept w w') => starts_any A n c l a ⟨#[60, 33, 68, 79, 67, 84, 89, 80, 69]⟩ w' (h.kept hk) (by decide) (by decide) hn (by omega) (by decide)
  rw [show strI ⟨#[60, 33, 68, 79, 67, 84, 89, 80, 69]⟩ = dts from rfl] at hc3
  have hs3 := startsF_len (p := dts) (s := l.drop a)
  rw [List.length_drop, hl] at hs3
  have hc4 := fun w' (hk : Kept w w') => starts_any A n c l a ⟨#[60, 47]⟩ w' (h.kept hk) (by decide) (by decide) hn (by omega) (by decide)
  rw [show strI ⟨#[60, 47]⟩ = [60, 47] from rfl] at hc4
  have hs4 := startsF_len (p := [60, 47]) (s := l.drop a)
  rw [List.length_drop, hl] at hs4
  have hu0 := fun (hle : a + 4 ≤ n) w' (hk : Kept w w') => upTo_any A n c l 4 a 4 ⟨#[45, 45, 62]⟩ w' (h.kept hk) (by decide) (by decide) hn hle (by decide)
  have hu1 := fun (hle : a + 9 ≤ n) w' (hk : Kept w w') => upTo_any A n c l 6 a 9 ⟨#[93, 93, 62]⟩ w' (h.kept hk) (by decide) (by decide) hn hle (by decide)
  have hu2 := fun (hle : a + 2 ≤ n) w' (hk : Kept w w') => upTo_any A n c l 5 a 2 ⟨#[63, 62]⟩ w' (h.kept hk) (by decide) (by decide) hn hle (by decide)
  rw [show strI ⟨#[45, 45, 62]⟩ = cmt2 from rfl] at hu0
  rw [show strI ⟨#[93, 93, 62]⟩ = cda2 from rfl] at hu1
  rw [show strI ⟨#[63, 62]⟩ = pis2 from rfl] at hu2
  have hu3 := fun (hle : a + 9 ≤ n) w' (hk : Kept w w') => ldoctypes_any A n c l a w' (h.kept hk) hn hle
  have hu4 := fun (hle : a + 2 ≤ n) w' (hk : Kept w w') => lend_any A n c l a w' (h.kept hk) hn hle
  have hu5 := fun w' (hk : Kept w w') => lstart_any A n c l a w' (h.kept hk) hn ha
  have hld := fun w' (hk : Kept w w') => lead_any A n c l ((a + 1 : Nat) : Int) w' (h.kept hk) (by omega)
  simp only [Int.toNat_natCast] at hld
  have ws : IntKind.i64.wrap ((a : Int) + 1) = ((a + 1 : Nat) : Int) := by rw [IntWalk.i64_in _ (by omega)]; omega
  have hM : markTk (l.drop a) = if startsF cmt (l.drop a) then upToF 4 4 cmt2 (l.drop a)
      else if startsF cda (l.drop a) then upToF 6 9 cda2 (l.drop a)
      else if startsF pis (l.drop a) then upToF 5 2 pis2 (l.drop a)
      else if startsF dts (l.drop a) then dtTk (l.drop a)
      else if startsF [60, 47] (l.drop a) then endTk (l.drop a)
      else if 0 < leadF (l.drop (a + 1)) then startTk (l.drop a) else ⟨11, 1, false⟩ := by
    unfold markTk
    rw [List.drop_drop]
  rw [hM]
  clear hM
  obtain ⟨b0, hb0⟩ : ∃ b, startsF cmt (l.drop a) = b := ⟨_, rfl⟩
  rw [hb0] at hc0 hs0
  rw [hb0]
  have C0 := Lib.hid hc0
  clear hc0 hb0
  obtain ⟨b1, hb1⟩ : ∃ b, startsF cda (l.drop a) = b := ⟨_, rfl⟩
  rw [hb1] at hc1 hs1
  rw [hb1]
  have C1 := Lib.hid hc1
  clear hc1 hb1
  obtain ⟨b2, hb2⟩ : ∃ b, startsF pis (l.drop a) = b := ⟨_, rfl⟩
  rw [hb2] at hc2 hs2
  rw [hb2]
  have C2 := Lib.hid hc2
  clear hc2 hb2
  obtain ⟨b3, hb3⟩ : ∃ b, startsF dts (l.drop a) = b := ⟨_, rfl⟩
  rw [hb3] at hc3 hs3
  rw [hb3]
  have C3 := Lib.hid hc3
  clear hc3 hb3
  obtain ⟨b4, hb4⟩ : ∃ b, startsF [60, 47] (l.drop a) = b := ⟨_, rfl⟩
  rw [hb4] at hc4 hs4
  rw [hb4]
  have C4 := Lib.hid hc4
  clear hc4 hb4
  obtain ⟨K, hK⟩ : ∃ K, leadF (l.drop (a + 1)) = K := ⟨_, rfl⟩
  rw [hK] at hld ⊢
  have LD := Lib.hid hld
  clear hld hK
  obtain ⟨T0, hT0⟩ : ∃ T, upToF 4 4 cmt2 (l.drop a) = T := ⟨_, rfl⟩
  rw [hT0] at hu0
  rw [hT0]
  obtain ⟨tk0, tt0, tb0, hV0⟩ := tkV_parts T0 a
  rw [hV0] at hu0
  have U0 := Lib.hid hu0
  have V0 := Lib.hid hV0
  clear hu0 hT0 hV0
  obtain ⟨T1, hT1⟩ : ∃ T, upToF 6 9 cda2 (l.drop a) = T := ⟨_, rfl⟩
  rw [hT1] at hu1
  rw [hT1]
  obtain ⟨tk1, tt1, tb1, hV1⟩ := tkV_parts T1 a
  rw [hV1] at hu1
  have U1 := Lib.hid hu1
  have V1 := Lib.hid hV1
  clear hu1 hT1 hV1
  obtain ⟨T2, hT2⟩ : ∃ T, upToF 5 2 pis2 (l.drop a) = T := ⟨_, rfl⟩
  rw [hT2] at hu2
  rw [hT2]
  obtain ⟨tk2, tt2, tb2, hV2⟩ := tkV_parts T2 a
  rw [hV2] at hu2
  have U2 := Lib.hid hu2
  have V2 := Lib.hid hV2
  clear hu2 hT2 hV2
  obtain ⟨T3, hT3⟩ : ∃ T, dtTk (l.drop a) = T := ⟨_, rfl⟩
  rw [hT3] at hu3
  rw [hT3]
  obtain ⟨tk3, tt3, tb3, hV3⟩ := tkV_parts T3 a
  rw [hV3] at hu3
  have U3 := Lib.hid hu3
  have V3 := Lib.hid hV3
  clear hu3 hT3 hV3
  obtain ⟨T4, hT4⟩ : ∃ T, endTk (l.drop a) = T := ⟨_, rfl⟩
  rw [hT4] at hu4
  rw [hT4]
  obtain ⟨tk4, tt4, tb4, hV4⟩ := tkV_parts T4 a
  rw [hV4] at hu4
  have U4 := Lib.hid hu4
  have V4 := Lib.hid hV4
  clear hu4 hT4 hV4
  obtain ⟨T5, hT5⟩ : ∃ T, startTk (l.drop a) = T := ⟨_, rfl⟩
  rw [hT5] at hu5
  rw [hT5]
  obtain ⟨tk5, tt5, tb5, hV5⟩ := tkV_parts T5 a
  rw [hV5] at hu5
  have U5 := Lib.hid hu5
  have V5 := Lib.hid hV5
  clear hu5 hT5 hV5
  have hk0 : Kept w (w.alloc (.cells #[.int .i64 0, .int .i64 0, .int .i64 0, .bool false] 54)) := (Kept.refl _).alloc _
  have B0 := Blk.new w #[.int .i64 0, .int .i64 0, .int .i64 0, .bool false] 54
  cases b0
  rotate_left
  · have hle : a + 4 ≤ n := by have := hs0 rfl; simp [cmt] at this; omega
    go_enter Try.func48, Try.ntmps48
    go_wp2_with fail
    generalize w.alloc (.cells #[.int .i64 0, .int .i64 0, .int .i64 0, .bool false] 54) = wa at hk0 B0 ⊢
    have q := hk0
    refine (C0.out _ q).mono ?_
    rintro e w1 ⟨rfl, h1⟩
    have q := q.trans h1
    have B0 := B0.kept h1
    go_wp2_with fail
    refine (U0.out hle _ q).mono ?_
    rintro e w1 ⟨rfl, h1⟩
    have q := q.trans h1
    have B0 := B0.kept h1
    have B := B0
    have f9 := B.cell
    have g9 := B.frozen
    go_wp2_with fail
    refine bodyPost_ret (v := .agg #[.int .i64 tk0, .int .i64 a, .int .i64 tt0, .bool tb0]) ?_ rfl ⟨?_, ?_⟩
    · simp [results, Try.results48, go_sem, f9]
    · first | exact congrArg Ending.returned V0.out.symm | (simp only [Bool.false_eq_true, if_false, if_true]; rw [V0.out])
    · repeat (first | (with_reducible exact q) | (with_reducible refine Kept.setCell ?_ (by simp; try omega) _))
  ·
    cases b1
    rotate_left
    · have hle : a + 9 ≤ n := by have := hs1 rfl; simp [cda] at this; omega
      go_enter Try.func48, Try.ntmps48
      go_wp2_with fail
      generalize w.alloc (.cells #[.int .i64 0, .int .i64 0, .int .i64 0, .bool false] 54) = wa at hk0 B0 ⊢
      have q := hk0
      refine (C0.out _ q).mono ?_
      rintro e w1 ⟨rfl, h1⟩
      have q := q.trans h1
      have B0 := B0.kept h1
      go_wp2_with fail
      refine (C1.out _ q).mono ?_
      rintro e w1 ⟨rfl, h1⟩
      have q := q.trans h1
      have B0 := B0.kept h1
      go_wp2_with fail
      refine (U1.out hle _ q).mono ?_
      rintro e w1 ⟨rfl, h1⟩
      have q := q.trans h1
      have B0 := B0.kept h1
      have B := B0
      have f9 := B.cell
      have g9 := B.frozen
      go_wp2_with fail
      refine bodyPost_ret (v := .agg #[.int .i64 tk1, .int .i64 a, .int .i64 tt1, .bool tb1]) ?_ rfl ⟨?_, ?_⟩
      · simp [results, Try.results48, go_sem, f9]
      · first | exact congrArg Ending.returned V1.out.symm | (simp only [Bool.false_eq_true, if_false, if_true]; rw [V1.out])
      · repeat (first | (with_reducible exact q) | (with_reducible refine Kept.setCell ?_ (by simp; try omega) _))
    ·
      cases b2
      rotate_left
      · have hle : a + 2 ≤ n := by have := hs2 rfl; simp [pis] at this; omega
        go_enter Try.func48, Try.ntmps48
        go_wp2_with fail
        generalize w.alloc (.cells #[.int .i64 0, .int .i64 0, .int .i64 0, .bool false] 54) = wa at hk0 B0 ⊢
        have q := hk0
        refine (C0.out _ q).mono ?_
        rintro e w1 ⟨rfl, h1⟩
        have q := q.trans h1
        have B0 := B0.kept h1
        go_wp2_with fail
        refine (C1.out _ q).mono ?_
        rintro e w1 ⟨rfl, h1⟩
        have q := q.trans h1
        have B0 := B0.kept h1
        go_wp2_with fail
        refine (C2.out _ q).mono ?_
        rintro e w1 ⟨rfl, h1⟩
        have q := q.trans h1
        have B0 := B0.kept h1
        go_wp2_with fail
        refine (U2.out hle _ q).mono ?_
        rintro e w1 ⟨rfl, h1⟩
        have q := q.trans h1
        have B0 := B0.kept h1
        have B := B0
        have f9 := B.cell
        have g9 := B.frozen
        go_wp2_with fail
        refine bodyPost_ret (v := .agg #[.int .i64 tk2, .int .i64 a, .int .i64 tt2, .bool tb2]) ?_ rfl ⟨?_, ?_⟩
        · simp [results, Try.results48, go_sem, f9]
        · first | exact congrArg Ending.returned V2.out.symm | (simp only [Bool.false_eq_true, if_false, if_true]; rw [V2.out])
        · repeat (first | (with_reducible exact q) | (with_reducible refine Kept.setCell ?_ (by simp; try omega) _))
      ·
        cases b3
        rotate_left
        · have hle : a + 9 ≤ n := by have := hs3 rfl; simp [dts] at this; omega
          go_enter Try.func48, Try.ntmps48
          go_wp2_with fail
          generalize w.alloc (.cells #[.int .i64 0, .int .i64 0, .int .i64 0, .bool false] 54) = wa at hk0 B0 ⊢
          have q := hk0
          refine (C0.out _ q).mono ?_
          rintro e w1 ⟨rfl, h1⟩
          have q := q.trans h1
          have B0 := B0.kept h1
          go_wp2_with fail
          refine (C1.out _ q).mono ?_
          rintro e w1 ⟨rfl, h1⟩
          have q := q.trans h1
          have B0 := B0.kept h1
          go_wp2_with fail
          refine (C2.out _ q).mono ?_
          rintro e w1 ⟨rfl, h1⟩
          have q := q.trans h1
          have B0 := B0.kept h1
          go_wp2_with fail
          refine (C3.out _ q).mono ?_
          rintro e w1 ⟨rfl, h1⟩
          have q := q.trans h1
          have B0 := B0.kept h1
          go_wp2_with fail
          refine (U3.out hle _ q).mono ?_
          rintro e w1 ⟨rfl, h1⟩
          have q := q.trans h1
          have B0 := B0.kept h1
          have B := B0
          have f9 := B.cell
          have g9 := B.frozen
          go_wp2_with fail
          refine bodyPost_ret (v := .agg #[.int .i64 tk3, .int .i64 a, .int .i64 tt3, .bool tb3]) ?_ rfl ⟨?_, ?_⟩
          · simp [results, Try.results48, go_sem, f9]
          · first | exact congrArg Ending.returned V3.out.symm | (simp only [Bool.false_eq_true, if_false, if_true]; rw [V3.out])
          · repeat (first | (with_reducible exact q) | (with_reducible refine Kept.setCell ?_ (by simp; try omega) _))
        ·
          cases b4
          rotate_left
          · have hle : a + 2 ≤ n := by have := hs4 rfl; simp at this; omega
            go_enter Try.func48, Try.ntmps48
            go_wp2_with fail
            generalize w.alloc (.cells #[.int .i64 0, .int .i64 0, .int .i64 0, .bool false] 54) = wa at hk0 B0 ⊢
            have q := hk0
            refine (C0.out _ q).mono ?_
            rintro e w1 ⟨rfl, h1⟩
            have q := q.trans h1
            have B0 := B0.kept h1
            go_wp2_with fail
            refine (C1.out _ q).mono ?_
            rintro e w1 ⟨rfl, h1⟩
            have q := q.trans h1
            have B0 := B0.kept h1
            go_wp2_with fail
            refine (C2.out _ q).mono ?_
            rintro e w1 ⟨rfl, h1⟩
            have q := q.trans h1
            have B0 := B0.kept h1
            go_wp2_with fail
            refine (C3.out _ q).mono ?_
            rintro e w1 ⟨rfl, h1⟩
            have q := q.trans h1
            have B0 := B0.kept h1
            go_wp2_with fail
            refine (C4.out _ q).mono ?_
            rintro e w1 ⟨rfl, h1⟩
            have q := q.trans h1
            have B0 := B0.kept h1
            go_wp2_with fail
            refine (U4.out hle _ q).mono ?_
            rintro e w1 ⟨rfl, h1⟩
            have q := q.trans h1
            have B0 := B0.kept h1
            have B := B0
            have f9 := B.cell
            have g9 := B.frozen
            go_wp2_with fail
            refine bodyPost_ret (v := .agg #[.int .i64 tk4, .int .i64 a, .int .i64 tt4, .bool tb4]) ?_ rfl ⟨?_, ?_⟩
            · simp [results, Try.results48, go_sem, f9]
            · first | exact congrArg Ending.returned V4.out.symm | (simp only [Bool.false_eq_true, if_false, if_true]; rw [V4.out])
            · repeat (first | (with_reducible exact q) | (with_reducible refine Kept.setCell ?_ (by simp; try omega) _))
          ·
            by_cases hK : 0 < K
            · have l0 : (0 : Int) < K := by omega
              go_enter Try.func48, Try.ntmps48
              go_wp2_with fail
              generalize w.alloc (.cells #[.int .i64 0, .int .i64 0, .int .i64 0, .bool false] 54) = wa at hk0 B0 ⊢
              have q := hk0
              refine (C0.out _ q).mono ?_
              rintro e w1 ⟨rfl, h1⟩
              have q := q.trans h1
              have B0 := B0.kept h1
              go_wp2_with fail
              refine (C1.out _ q).mono ?_
              rintro e w1 ⟨rfl, h1⟩
              have q := q.trans h1
              have B0 := B0.kept h1
              go_wp2_with fail
              refine (C2.out _ q).mono ?_
              rintro e w1 ⟨rfl, h1⟩
              have q := q.trans h1
              have B0 := B0.kept h1
              go_wp2_with fail
              refine (C3.out _ q).mono ?_
              rintro e w1 ⟨rfl, h1⟩
              have q := q.trans h1
              have B0 := B0.kept h1
              go_wp2_with fail
              refine (C4.out _ q).mono ?_
              rintro e w1 ⟨rfl, h1⟩
              have q := q.trans h1
              have B0 := B0.kept h1
              go_wp2_with fail
              refine (LD.out _ q).mono ?_
              rintro e w1 ⟨rfl, h1⟩
              have q := q.trans h1
              have B0 := B0.kept h1
              go_wp2_with fail
              refine (U5.out _ q).mono ?_
              rintro e w1 ⟨rfl, h1⟩
              have q := q.trans h1
              have B0 := B0.kept h1
              have B := B0
              have f9 := B.cell
              have g9 := B.frozen
              go_wp2_with fail
              refine bodyPost_ret (v := .agg #[.int .i64 tk5, .int .i64 a, .int .i64 tt5, .bool tb5]) ?_ rfl ⟨?_, ?_⟩
              · simp [results, Try.results48, go_sem, f9]
              · first | exact congrArg Ending.returned V5.out.symm | (rw [if_pos hK, V5.out])
              · repeat (first | (with_reducible exact q) | (with_reducible refine Kept.setCell ?_ (by simp; try omega) _))
            · have l0 : ¬ (0 : Int) < K := by omega
              go_enter Try.func48, Try.ntmps48
              go_wp2_with fail
              generalize w.alloc (.cells #[.int .i64 0, .int .i64 0, .int .i64 0, .bool false] 54) = wa at hk0 B0 ⊢
              have q := hk0
              refine (C0.out _ q).mono ?_
              rintro e w1 ⟨rfl, h1⟩
              have q := q.trans h1
              have B0 := B0.kept h1
              go_wp2_with fail
              refine (C1.out _ q).mono ?_
              rintro e w1 ⟨rfl, h1⟩
              have q := q.trans h1
              have B0 := B0.kept h1
              go_wp2_with fail
              refine (C2.out _ q).mono ?_
              rintro e w1 ⟨rfl, h1⟩
              have q := q.trans h1
              have B0 := B0.kept h1
              go_wp2_with fail
              refine (C3.out _ q).mono ?_
              rintro e w1 ⟨rfl, h1⟩
              have q := q.trans h1
              have B0 := B0.kept h1
              go_wp2_with fail
              refine (C4.out _ q).mono ?_
              rintro e w1 ⟨rfl, h1⟩
              have q := q.trans h1
              have B0 := B0.kept h1
              go_wp2_with fail
              refine (LD.out _ q).mono ?_
              rintro e w1 ⟨rfl, h1⟩
              have q := q.trans h1
              have B0 := B0.kept h1
              have B := B0
              have f9 := B.cell
              have g9 := B.frozen
              go_wp2_with fail
              refine bodyPost_ret (v := .agg #[.int .i64 11, .int .i64 a, .int .i64 ((a : Int) + 1), .bool false]) ?_ rfl ⟨?_, ?_⟩
              · simp [results, Try.results48, go_sem, f9]
              · first | rfl | (simp only [Bool.false_eq_true, if_false, if_neg hK]; rfl)
              · repeat (first | (with_reducible exact q) | (with_reducible refine Kept.setCell ?_ (by simp; try omega) _))

theorem lnext_out (A : Option Addr) (n c : Nat) (a : Nat) (w : World) (ha : n ≤ a) :
    Calls Try.prog 31 #[.slice A n c, .int .i64 a] w fun e w' => e = .returned (.tuple #[.agg #[.int .i64 0, .int .i64 0, .int .i64 0, .bool false], .bool false]) ∧ Kept w w' := by
  have d0 : decide ((a : Int) < 0) = false := by simp
  have d1 : decide (n ≤ a) = true := by simp; omega
  have d2 : decide ((n : Int) ≤ a) = true := by simp; omega
  have hk0 : Kept w (w.alloc (.cells #[.int .i64 0, .int .i64 0, .int .i64 0, .bool false] 54)) := (Kept.refl _).alloc _
  have B0 := Blk.new w #[.int .i64 0, .int .i64 0, .int .i64 0, .bool false] 54
  go_enter Try.func31, Try.ntmps31
  go_upto_region 1 with fail
  generalize w.alloc (.cells #[.int .i64 0, .int .i64 0, .int .i64 0, .bool false] 54) = w1 at hk0 B0 ⊢
  have f9 := B0.cell
  have g9 := B0.frozen
  go_wp2_with fail
  refine bodyPost_ret (v := .tuple #[.agg #[.int .i64 0, .int .i64 0, .int .i64 0, .bool false], .bool false]) ?_ rfl ⟨rfl, ?_⟩
  · simp [results, Try.results31, go_sem, f9]
  · repeat (first | (with_reducible exact hk0) | (with_reducible refine Kept.setCell ?_ (by simp; try omega) _))
theorem lnext_any (A : Option Addr) (n c : Nat) (l : List Int) (a : Nat) (w : World) (h : Sl w 1 A n c (l.map (Value.int .i32))) (hn : n ≤ 1000000) (ha : a < n) :
    Calls Try.prog 31 #[.slice A n c, .int .i64 a] w fun e w' => e = .returned (.tuple #[tkV (nextTk (l.drop a)) a, .bool true]) ∧ Kept w w' := by
  have hcap := h.cap
  have hmax := h.max
  have hl := h.llen1
  have d0 : decide ((a : Int) < 0) = false := by simp
  have d1 : decide (n ≤ a) = false := by simp; omega
  have d2 : decide ((n : Int) ≤ a) = false := by simp; omega
  obtain ⟨b, o, x, rfl, hx, hc, hb⟩ := h.oneb (k := a) ha
  have l0 : (0 : Int) ≤ a := by omega
  have l1 : (a : Int) < n := by omega
  have hN : nextTk (l.drop a) = if x = 60 then markTk (l.drop a) else if x = 38 then ⟨(refT (l.drop a)).1, (refT (l.drop a)).2, (refT (l.drop a)).1 != 11⟩ else if x = -1 then ⟨11, 1, false⟩ else ⟨1, runF plainR (l.drop a), true⟩ := by
    unfold nextTk
    rw [List.head?_drop, hx]
  rw [hN]
  clear hN
  have hk0 : Kept w (w.alloc (.cells #[.int .i64 0, .int .i64 0, .int .i64 0, .bool false] 54)) := (Kept.refl _).alloc _
  have B0 := Blk.new w #[.int .i64 0, .int .i64 0, .int .i64 0, .bool false] 54
  by_cases h60 : x = 60
  · subst h60
    have hm := fun w' (hk : Kept w w') => lmarkup_any (some ⟨b, o, none⟩) n c l a w' (h.kept hk) hn ha
    obtain ⟨T, hT⟩ : ∃ T, markTk (l.drop a) = T := ⟨_, rfl⟩
    rw [hT] at hm
    rw [hT, if_pos rfl]
    obtain ⟨tk, tt, tb, hV⟩ := tkV_parts T a
    rw [hV] at hm
    have HR := Lib.hid hm
    have HV := Lib.hid hV
    clear hm hV hx hT
    go_enter Try.func31, Try.ntmps31
    go_wp2_with fail
    generalize w.alloc (.cells #[.int .i64 0, .int .i64 0, .int .i64 0, .bool false] 54) = w1 at hk0 B0 ⊢
    refine (HR.out _ hk0).mono ?_
    rintro e w2 ⟨rfl, k2⟩
    have hk2 := hk0.trans k2
    have B2 := B0.kept k2
    have f9 := B2.cell
    have g9 := B2.frozen
    clear k2 B0 hk0
    go_wp2_with fail
    refine bodyPost_ret (v := .tuple #[.agg #[.int .i64 tk, .int .i64 a, .int .i64 tt, .bool tb], .bool true]) ?_ rfl ⟨?_, ?_⟩
    · simp [results, Try.results31, go_sem, f9]
    · rw [HV.out]
    · repeat (first | (with_reducible exact hk2) | (with_reducible refine Kept.setCell ?_ (by simp; try omega) _))
  · have d60 : (x == 60) = false := by simpa using h60
    by_cases h38 : x = 38
    · subst h38
      have href := fun w' (hk : Kept w w') => ref_any (some ⟨b, o, none⟩) n c l a w' (h.kept hk) hn ha hx
      rw [if_neg h60, if_pos rfl]
      have hT : Value.agg (tokC l a) = tkV ⟨(refT (l.drop a)).1, (refT (l.drop a)).2, (refT (l.drop a)).1 != 11⟩ a := rfl
      rw [hT] at href
      obtain ⟨tk, tt, tb, hV⟩ := tkV_parts ⟨(refT (l.drop a)).1, (refT (l.drop a)).2, (refT (l.drop a)).1 != 11⟩ a
      rw [hV] at href
      have HR := Lib.hid href
      have HV := Lib.hid hV
      clear href hV hx hT
      go_enter Try.func31, Try.ntmps31
      go_wp2_with fail
      generalize w.alloc (.cells #[.int .i64 0, .int .i64 0, .int .i64 0, .bool false] 54) = w1 at hk0 B0 ⊢
      refine (HR.out _ hk0).mono ?_
      rintro e w2 ⟨rfl, k2⟩
      have hk2 := hk0.trans k2
      have B2 := B0.kept k2
      have f9 := B2.cell
      have g9 := B2.frozen
      clear k2 B0 hk0
      go_wp2_with fail
      refine bodyPost_ret (v := .tuple #[.agg #[.int .i64 tk, .int .i64 a, .int .i64 tt, .bool tb], .bool true]) ?_ rfl ⟨?_, ?_⟩
      · simp [results, Try.results31, go_sem, f9]
      · rw [HV.out]
      · repeat (first | (with_reducible exact hk2) | (with_reducible refine Kept.setCell ?_ (by simp; try omega) _))
    · have d38 : (x == 38) = false := by simpa using h38
      by_cases h1 : x = -1
      · subst h1
        clear hx
        rw [if_neg h60, if_neg h38, if_pos rfl]
        go_enter Try.func31, Try.ntmps31
        go_upto_region 1 with fail
        have hc1 := hk0.cell hc
        generalize w.alloc (.cells #[.int .i64 0, .int .i64 0, .int .i64 0, .bool false] 54) = w1 at hk0 B0 hc1 ⊢
        have f9 := B0.cell
        have g9 := B0.frozen
        go_wp2_with fail
        refine bodyPost_ret (v := .tuple #[.agg #[.int .i64 11, .int .i64 a, .int .i64 ((a : Int) + 1), .bool false], .bool true]) ?_ rfl ⟨rfl, ?_⟩
        · simp [results, Try.results31, go_sem, f9]
        · repeat (first | (with_reducible exact hk0) | (with_reducible refine Kept.setCell ?_ (by simp; try omega) _))
      · have dm : (x == -1) = false := by simpa using h1
        rw [if_neg h60, if_neg h38, if_neg h1]
        have hru := fun w' (hk : Kept w w') => run_any _ plainR (enters Try.func50 (by kernel_rfl) (by kernel_rfl)) lplain_any (some ⟨b, o, none⟩) n c l a w' (h.kept hk) (by omega)
        have hle := runF_le plainR (l.drop a)
        rw [List.length_drop, hl] at hle
        obtain ⟨R, hR⟩ : ∃ R, runF plainR (l.drop a) = R := ⟨_, rfl⟩
        rw [hR] at hru hle
        rw [hR]
        have HR := Lib.hid hru
        clear hru hR hx h60 h38 h1
        go_enter Try.func31, Try.ntmps31
        go_upto_region 1 with fail
        have hc1 := hk0.cell hc
        generalize w.alloc (.cells #[.int .i64 0, .int .i64 0, .int .i64 0, .bool false] 54) = w1 at hk0 B0 hc1 ⊢
        go_wp2_with fail
        refine (HR.out _ hk0).mono ?_
        rintro e w2 ⟨rfl, k2⟩
        have hk2 := hk0.trans k2
        have B2 := B0.kept k2
        have f9 := B2.cell
        have g9 := B2.frozen
        clear k2 B0 hk0
        go_wp2_with fail
        refine bodyPost_ret (v := .tuple #[.agg #[.int .i64 1, .int .i64 a, .int .i64 ((a : Int) + R), .bool true], .bool true]) ?_ rfl ⟨rfl, ?_⟩
        · simp [results, Try.results31, go_sem, f9]
        · repeat (first | (with_reducible exact hk2) | (with_reducible refine Kept.setCell ?_ (by simp; try omega) _))
end Go.Proofs.Ytennpgdoepdboaa
