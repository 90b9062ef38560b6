/- Layer 7: start, end, declared, subset, doctypes: walked. -/
import Derived.Test.YtennpgdoepdboaaLexA
namespace Go.Proofs.Ytennpgdoepdboaa
open Go.RowKit
attribute [local go_sem ↓] Go.wp_at_zero Go.wp_at_succ

theorem lstart_any (A : Option Addr) (n c : Nat) (l : List Int) (a : Nat) (w : World) (h : Sl w 1 A n c (l.map (Value.int .i32))) (hn : n ≤ 1000000) (ha : a < n) :
    Calls Try.prog 68 #[.slice A n c, .int .i64 a] w fun e w' => e = .returned (tkV (startTk (l.drop a)) a) ∧ Kept w w' := by
  have hcap := h.cap
  have hmax := h.max
  have hl := h.llen1
  have hang := fun w' (hk : Kept w w') => angle_any A n c l (a + 1) true w' (h.kept hk) hn (by omega)
  obtain ⟨hle1, hle2, _⟩ := angleF_le true (l.drop (a + 1)) 0
  rw [List.length_drop, hl] at hle1 hle2
  have hT : startTk (l.drop a) = if (angleF true 0 (l.drop (a + 1))).2 then (if (l.drop a).getD (angleF true 0 (l.drop (a + 1))).1 0 = 47 then ⟨9, (angleF true 0 (l.drop (a + 1))).1 + 2, true⟩ else ⟨8, (angleF true 0 (l.drop (a + 1))).1 + 2, true⟩)
      else ⟨8, (angleF true 0 (l.drop (a + 1))).1 + 1, false⟩ := by
    unfold startTk
    rw [List.drop_drop]
  rw [hT]
  clear hT
  obtain ⟨k, ok, hR⟩ : ∃ k ok, angleF true 0 (l.drop (a + 1)) = (k, ok) := ⟨_, _, rfl⟩
  rw [hR] at hang hle1 hle2 ⊢
  dsimp only at hang hle1 hle2 ⊢
  have HA := Lib.hid hang
  clear hang hR
  have hk0 : Kept w (w.alloc (.cells #[.int .i64 0, .int .i64 0, .int .i64 0, .bool false] 54)) := (Kept.refl _).alloc _
  have B0 := Blk.new w #[.int .i64 0, .int .i64 0, .int .i64 0, .bool false] 54
  have ws : IntKind.i64.wrap ((a : Int) + 1) = ((a + 1 : Nat) : Int) := by rw [IntWalk.i64_in _ (by omega)]; omega
  cases ok
  · go_enter Try.func68, Try.ntmps68
    go_wp2_with fail
    generalize w.alloc (.cells #[.int .i64 0, .int .i64 0, .int .i64 0, .bool false] 54) = w1 at hk0 B0 ⊢
    refine (HA.out _ hk0).mono ?_
    rintro e w2 ⟨rfl, k2⟩
    have hk2 := hk0.trans k2
    have B2 := B0.kept k2
    have f9 := B2.cell
    have g9 := B2.frozen
    clear k2 B0 hk0
    go_wp2_with fail
    refine bodyPost_ret (v := .agg #[.int .i64 8, .int .i64 a, .int .i64 ((a + 1 + k : Nat) : Int), .bool false]) ?_ rfl ⟨?_, ?_⟩
    · simp [results, Try.results68, go_sem, f9]
    · have e1 : ((a + 1 + k : Nat) : Int) = (a : Int) + ((k + 1 : Nat) : Int) := by omega
      rw [e1]
      rfl
    · repeat (first | (with_reducible exact hk2) | (with_reducible refine Kept.setCell ?_ (by simp; try omega) _))
  · have hlt := hle2 rfl
    obtain ⟨b, o, x, rfl, hx, hc, hbb⟩ := h.oneb (k := a + k) (by omega)
    have hg : (l.drop a).getD k 0 = x := by
      rw [List.getD_eq_getElem?_getD, List.getElem?_drop, hx]
      rfl
    rw [hg]
    clear hg hx
    have w2' : IntKind.i64.wrap (((a + 1 + k : Nat) : Int) - 1) = ((a + k : Nat) : Int) := by rw [IntWalk.i64_in _ (by omega)]; omega
    have w3' : IntKind.i64.wrap (((a + 1 + k : Nat) : Int) + 1) = ((a + 1 + k : Nat) : Int) + 1 := IntWalk.i64_in _ (by omega)
    by_cases h47 : x = 47
    · subst h47
      go_enter Try.func68, Try.ntmps68
      go_wp2_with fail
      generalize w.alloc (.cells #[.int .i64 0, .int .i64 0, .int .i64 0, .bool false] 54) = w1 at hk0 B0 ⊢
      refine (HA.out _ hk0).mono ?_
      rintro e w2 ⟨rfl, k2⟩
      have hk2 := hk0.trans k2
      have B2 := B0.kept k2
      have f9 := B2.cell
      have g9 := B2.frozen
      have hc2 := hk2.cell hc
      clear k2 B0 hk0
      go_wp2_with fail
      refine bodyPost_ret (v := .agg #[.int .i64 9, .int .i64 a, .int .i64 ((a + 1 + k : Nat) + 1 : Int), .bool true]) ?_ rfl ⟨?_, ?_⟩
      · simp [results, Try.results68, go_sem, f9]
      · have e1 : ((a + 1 + k : Nat) + 1 : Int) = (a : Int) + ((k + 2 : Nat) : Int) := by omega
        rw [e1]
        rfl
      · repeat (first | (with_reducible exact hk2) | (with_reducible refine Kept.setCell ?_ (by simp; try omega) _))
    · have d47 : (x == 47) = false := by simpa using h47
      go_enter Try.func68, Try.ntmps68
      go_wp2_with fail
      generalize w.alloc (.cells #[.int .i64 0, .int .i64 0, .int .i64 0, .bool false] 54) = w1 at hk0 B0 ⊢
      refine (HA.out _ hk0).mono ?_
      rintro e w2 ⟨rfl, k2⟩
      have hk2 := hk0.trans k2
      have B2 := B0.kept k2
      have f9 := B2.cell
      have g9 := B2.frozen
      have hc2 := hk2.cell hc
      clear k2 B0 hk0
      go_wp2_with fail
      refine bodyPost_ret (v := .agg #[.int .i64 8, .int .i64 a, .int .i64 ((a + 1 + k : Nat) + 1 : Int), .bool true]) ?_ rfl ⟨?_, ?_⟩
      · simp [results, Try.results68, go_sem, f9]
      · have e1 : ((a + 1 + k : Nat) + 1 : Int) = (a : Int) + ((k + 2 : Nat) : Int) := by omega
        rw [e1]
        rfl
      · repeat (first | (with_reducible exact hk2) | (with_reducible refine Kept.setCell ?_ (by simp; try omega) _))

theorem lend_any (A : Option Addr) (n c : Nat) (l : List Int) (a : Nat) (w : World) (h : Sl w 1 A n c (l.map (Value.int .i32))) (hn : n ≤ 1000000) (ha : a + 2 ≤ n) :
    Calls Try.prog 66 #[.slice A n c, .int .i64 a] w fun e w' => e = .returned (tkV (endTk (l.drop a)) a) ∧ Kept w w' := by
  have hcap := h.cap
  have hmax := h.max
  have hl := h.llen1
  have HL := Lib.hid hl
  have hT : endTk (l.drop a) = match l[a + 2 + runF noEnd (l.drop (a + 2))]? with
      | some x => if x = 62 then ⟨10, runF noEnd (l.drop (a + 2)) + 3, true⟩ else ⟨10, runF noEnd (l.drop (a + 2)) + 2, false⟩
      | none => ⟨10, n - a, false⟩ := by
    unfold endTk
    rw [List.drop_drop, List.length_drop, hl, List.getElem?_drop, show a + (runF noEnd (l.drop (a + 2)) + 2) = a + 2 + runF noEnd (l.drop (a + 2)) by omega]
    rfl
  obtain ⟨R, hR⟩ : ∃ R, runF noEnd (l.drop (a + 2)) = R := ⟨_, rfl⟩
  obtain ⟨T, hTT⟩ : ∃ T, endTk (l.drop a) = T := ⟨_, rfl⟩
  rw [hR, hTT] at hT
  rw [hTT]
  have HT := Lib.hid hT
  clear hT hTT
  have hk0 : Kept w (w.alloc (.cells #[.int .i64 0, .int .i64 0, .int .i64 0, .bool false] 54)) := (Kept.refl _).alloc _
  have B0 := Blk.new w #[.int .i64 0, .int .i64 0, .int .i64 0, .bool false] 54
  have f9 := B0.cell
  have g9 := B0.frozen
  have hs := h.kept hk0
  have hlt0 := B0.lt
  go_enter Try.func66, Try.ntmps66
  go_wp2_with fail
  generalize hw1 : w.alloc (.cells #[.int .i64 0, .int .i64 0, .int .i64 0, .bool false] 54) = w1 at hk0 B0 f9 g9 hs hlt0 ⊢
  clear hw1 h
  go_loopw [5] (fun i wr => ∃ k : Nat, a + 2 + k ≤ n ∧ i = .int .i64 ((a + 2 + k : Nat) : Int) ∧ wr = w1 ∧ Hid (R = k + runF noEnd (l.drop (a + 2 + k)))) (fun i _ => n - (intOf i).toNat)
  case atStart => exact ⟨0, by omega, by go_num, by trivial, by unfold Hid; rw [← hR]; simp⟩
  case round =>
    obtain ⟨k, hk, rfl, rfl, hinv⟩ := hrel
    by_cases hlt : a + 2 + k < n
    · obtain ⟨b, o, x, rfl, hx, hc, hbb⟩ := hs.oneb (k := a + 2 + k) hlt
      have HX := Lib.hid hx
      clear hx
      by_cases h62 : x = 62
      · subst h62
        have HR := Lib.hid (show R = k by rw [hinv.out, runF_no HX.out rfl]; rfl)
        go_wp2_with fail
        refine bodyPost_ret (v := .agg #[.int .i64 10, .int .i64 a, .int .i64 ((a : Int) + 2 + k + 1), .bool true]) ?_ rfl ⟨?_, ?_⟩
        · simp [results, Try.results66, go_sem, f9]
        · rw [HT.out, HR.out, HX.out, show (a : Int) + 2 + k + 1 = (a : Int) + ((k + 3 : Nat) : Int) by omega]
          rfl
        · repeat (first | (with_reducible exact hk0) | (with_reducible refine Kept.setCell ?_ (by simp; try omega) _))
      · have d62 : (x == 62) = false := by simpa using h62
        have H62 := Lib.hid h62
        clear h62
        by_cases h60 : x = 60
        · subst h60
          have HR := Lib.hid (show R = k by rw [hinv.out, runF_no HX.out rfl]; rfl)
          go_wp2_with fail
          refine bodyPost_ret (v := .agg #[.int .i64 10, .int .i64 a, .int .i64 ((a : Int) + 2 + k), .bool false]) ?_ rfl ⟨?_, ?_⟩
          · simp [results, Try.results66, go_sem, f9]
          · rw [HT.out, HR.out, HX.out, show (a : Int) + 2 + k = (a : Int) + ((k + 2 : Nat) : Int) by omega]
            rfl
          · repeat (first | (with_reducible exact hk0) | (with_reducible refine Kept.setCell ?_ (by simp; try omega) _))
        · have d60 : (x == 60) = false := by simpa using h60
          have HN := Lib.hid (show noEnd x = true by unfold noEnd; simp [H62.out, h60])
          clear h60
          go_wp2_with fail
          go_roundw
          case rel => exact ⟨k + 1, by omega, by go_num, by trivial, by unfold Hid; rw [hinv.out, runF_yes HX.out HN.out, Nat.add_assoc (a + 2) k 1]; omega⟩
          case measure => simp [intOf]; omega
    · have HE := Lib.hid (show l.length ≤ a + 2 + k by have := HL.out; omega)
      have HR := Lib.hid (show R = k by rw [hinv.out, runF_end HE.out]; rfl)
      go_wp2_with fail
      refine bodyPost_ret (v := .agg #[.int .i64 10, .int .i64 a, .int .i64 n, .bool false]) ?_ rfl ⟨?_, ?_⟩
      · simp [results, Try.results66, go_sem, f9]
      · rw [HT.out, HR.out, List.getElem?_eq_none (by have := HE.out; omega), show (n : Int) = (a : Int) + ((n - a : Nat) : Int) by omega]
        rfl
      · repeat (first | (with_reducible exact hk0) | (with_reducible refine Kept.setCell ?_ (by simp; try omega) _))

theorem ldeclared_any (A : Option Addr) (n c : Nat) (l : List Int) (a : Nat) (w : World) (h : Sl w 1 A n c (l.map (Value.int .i32))) (hn : n ≤ 1000000) (ha : a < n) :
    Calls Try.prog 82 #[.slice A n c, .int .i64 a] w fun e w' => e = .returned (.tuple #[.int .i64 ((a + (declF (l.drop a)).1 : Nat) : Int), .bool (declF (l.drop a)).2]) ∧ Kept w w' := by
  have hcap := h.cap
  have hmax := h.max
  have hl := h.llen1
  have hc4 := fun w' (hk : Kept w w') => starts_any A n c l a ⟨#[60, 33, 45, 45]⟩ w' (h.kept hk) (by decide) (by decide) hn (by omega) (by decide)
  have hc2 := fun w' (hk : Kept w w') => starts_any A n c l a ⟨#[60, 63]⟩ w' (h.kept hk) (by decide) (by decide) hn (by omega) (by decide)
  have hu4 := fun (hle : a + 4 ≤ n) w' (hk : Kept w w') => upTo_any A n c l 4 a 4 ⟨#[45, 45, 62]⟩ w' (h.kept hk) (by decide) (by decide) hn hle (by decide)
  have hu2 := fun (hle : a + 2 ≤ n) w' (hk : Kept w w') => upTo_any A n c l 5 a 2 ⟨#[63, 62]⟩ w' (h.kept hk) (by decide) (by decide) hn hle (by decide)
  have hang := fun w' (hk : Kept w w') => angle_any A n c l a false w' (h.kept hk) hn (by omega)
  rw [show strI ⟨#[60, 33, 45, 45]⟩ = cmt from rfl] at hc4
  rw [show strI ⟨#[60, 63]⟩ = pis from rfl] at hc2
  rw [show strI ⟨#[45, 45, 62]⟩ = cmt2 from rfl] at hu4
  rw [show strI ⟨#[63, 62]⟩ = pis2 from rfl] at hu2
  obtain ⟨hle1, _, _⟩ := angleF_le false (l.drop a) 0
  rw [List.length_drop, hl] at hle1
  obtain ⟨b, o, x, rfl, hx, hc, hbb⟩ := h.oneb (k := a) ha
  have hD : declF (l.drop a) = if startsF cmt (l.drop a) then ((upToF 4 4 cmt2 (l.drop a)).to, (upToF 4 4 cmt2 (l.drop a)).whole)
      else if startsF pis (l.drop a) then ((upToF 5 2 pis2 (l.drop a)).to, (upToF 5 2 pis2 (l.drop a)).whole)
      else if x = 60 then (min ((angleF false 0 (l.drop a)).1 + 1) (n - a), (angleF false 0 (l.drop a)).2) else (1, true) := by
    unfold declF
    rw [List.head?_drop, hx, List.length_drop, hl]
    simp only [Option.some.injEq]
  rw [hD]
  have hs4 := startsF_len (p := cmt) (s := l.drop a)
  have hs2 := startsF_len (p := pis) (s := l.drop a)
  rw [List.length_drop, hl] at hs4 hs2
  clear hD hx
  obtain ⟨b4, hb4⟩ : ∃ b, startsF cmt (l.drop a) = b := ⟨_, rfl⟩
  obtain ⟨b2, hb2⟩ : ∃ b, startsF pis (l.drop a) = b := ⟨_, rfl⟩
  obtain ⟨k4, t4, o4, hT4⟩ : ∃ k t o, upToF 4 4 cmt2 (l.drop a) = ⟨k, t, o⟩ := ⟨_, _, _, rfl⟩
  obtain ⟨k2, t2, o2, hT2⟩ : ∃ k t o, upToF 5 2 pis2 (l.drop a) = ⟨k, t, o⟩ := ⟨_, _, _, rfl⟩
  obtain ⟨ka, oa, hTa⟩ : ∃ k o, angleF false 0 (l.drop a) = (k, o) := ⟨_, _, rfl⟩
  rw [hb4] at hc4 hs4
  rw [hb2] at hc2 hs2
  rw [hT4] at hu4
  rw [hT2] at hu2
  rw [hTa] at hang hle1
  rw [hb4, hb2, hT4, hT2, hTa]
  clear hb4 hb2 hT4 hT2 hTa
  have C4 := Lib.hid hc4
  have C2 := Lib.hid hc2
  have U4 := Lib.hid hu4
  have U2 := Lib.hid hu2
  have AN := Lib.hid hang
  clear hc4 hc2 hu4 hu2 hang
  dsimp only at hle1
  have ws : IntKind.i64.wrap (((a + ka : Nat) : Int) + 1) = ((a + ka : Nat) : Int) + 1 := IntWalk.i64_in _ (by omega)
  cases b4
  rotate_left
  · have h4 : a + 4 ≤ n := by have := hs4 rfl; simp [cmt] at this; omega
    go_enter Try.func82, Try.ntmps82
    go_wp2_with fail
    refine (C4.out _ (Kept.refl _)).mono ?_
    rintro e w1 ⟨rfl, h1⟩
    go_wp2_with fail
    refine (U4.out h4 _ h1).mono ?_
    rintro e w2 ⟨rfl, h2⟩
    have h3 := h1.trans h2
    simp only [tkV]
    go_wp2_with fail
    go_quiet (fail)
    go_wp2_with fail
    go_ret2
    refine ⟨?_, by repeat (first | (with_reducible exact h3) | (with_reducible refine Kept.drewN ?_ _) | (with_reducible refine Kept.drew ?_) | (with_reducible refine Kept.setCell ?_ (by simp; have := h3.size; omega) _) | (with_reducible refine Kept.alloc ?_ _))⟩
    simp
  · cases b2
    rotate_left
    · have h4 : a + 2 ≤ n := by have := hs2 rfl; simp [pis] at this; omega
      go_enter Try.func82, Try.ntmps82
      go_wp2_with fail
      refine (C4.out _ (Kept.refl _)).mono ?_
      rintro e w1 ⟨rfl, h1⟩
      go_wp2_with fail
      refine (C2.out _ h1).mono ?_
      rintro e w2 ⟨rfl, h2⟩
      have h3 := h1.trans h2
      go_wp2_with fail
      refine (U2.out h4 _ h3).mono ?_
      rintro e w3 ⟨rfl, h5⟩
      have h6 := h3.trans h5
      simp only [tkV]
      go_wp2_with fail
      go_quiet (fail)
      go_wp2_with fail
      go_ret2
      refine ⟨?_, by repeat (first | (with_reducible exact h6) | (with_reducible refine Kept.drewN ?_ _) | (with_reducible refine Kept.drew ?_) | (with_reducible refine Kept.setCell ?_ (by simp; have := h6.size; omega) _) | (with_reducible refine Kept.alloc ?_ _))⟩
      simp
    · by_cases h60 : x = 60
      · subst h60
        have HMN : Hid (if (n : Int) < (a : Int) + ka + 1 then (n : Int) = ((a + min (ka + 1) (n - a) : Nat) : Int) else (a : Int) + ka + 1 = ((a + min (ka + 1) (n - a) : Nat) : Int)) := by
          unfold Hid
          split <;> omega
        go_enter Try.func82, Try.ntmps82
        go_wp2_with fail
        refine (C4.out _ (Kept.refl _)).mono ?_
        rintro e w1 ⟨rfl, h1⟩
        go_wp2_with fail
        refine (C2.out _ h1).mono ?_
        rintro e w2 ⟨rfl, h2⟩
        have h3 := h1.trans h2
        have hc3 := h3.cell hc
        go_wp2_with fail
        refine (AN.out _ h3).mono ?_
        rintro e w3 ⟨rfl, h5⟩
        have h6 := h3.trans h5
        by_cases hcm : (n : Int) < (a : Int) + ka + 1
        · have dm : decide ((n : Int) < (a : Int) + ka + 1) = true := by simpa using hcm
          have hmn := HMN.out
          rw [if_pos hcm] at hmn
          have HM := Lib.hid hmn
          clear hmn
          go_wp2_with fail
          go_ret2
          exact ⟨by simp; have := HM.out; omega, h6⟩
        · have dm : decide ((n : Int) < (a : Int) + ka + 1) = false := by simpa using hcm
          have hmn := HMN.out
          rw [if_neg hcm] at hmn
          have HM := Lib.hid hmn
          clear hmn
          go_wp2_with fail
          go_ret2
          exact ⟨by simp; have := HM.out; omega, h6⟩
      · have d60 : (x == 60) = false := by simpa using h60
        go_enter Try.func82, Try.ntmps82
        go_wp2_with fail
        refine (C4.out _ (Kept.refl _)).mono ?_
        rintro e w1 ⟨rfl, h1⟩
        go_wp2_with fail
        refine (C2.out _ h1).mono ?_
        rintro e w2 ⟨rfl, h2⟩
        have h3 := h1.trans h2
        have hc3 := h3.cell hc
        go_wp2_with fail
        go_ret2
        exact ⟨by simp [h60], h3⟩
end Go.Proofs.Ytennpgdoepdboaa
