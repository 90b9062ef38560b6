/- Layer 9: in, quoted, word, till, declared, named: walked. Printed by gen_dtda.py. -/
import Derived.Test.YtnfcfpcpfnhcnaaDtdP
import Derived.Test.YtnfcfpcpfnhcnaaLexA
import Derived.Test.YtnfcfpcpfnhcnaaBlk
namespace Go.Proofs.Ytnfcfpcpfnhcnaa
open Go.RowKit
attribute [local go_sem ↓] Go.wp_at_zero Go.wp_at_succ

theorem din_any (A : Option Addr) (n c : Nat) (f t : Int) (w : World) :
    Calls Try.prog 20 #[.slice A n c, .int .i64 f, .int .i64 t] w fun e w' => e = .returned (.bool (decide (0 ≤ f ∧ f ≤ t ∧ t ≤ n))) ∧ w = w' := by
  by_cases h1 : 0 ≤ f
  · by_cases h2 : f ≤ t
    · by_cases h3 : t ≤ n
      · have HV : Hid (decide (0 ≤ f ∧ f ≤ t ∧ t ≤ n) = true) := decide_eq_true ⟨h1, h2, h3⟩
        have d1 : decide (f < 0) = false := decide_eq_false (by omega)
        have d2 : decide (t < f) = false := decide_eq_false (by omega)
        have d3 : decide ((n : Int) < t) = false := decide_eq_false (by omega)
        go_enter Try.func20, Try.ntmps20
        go_wp2_with fail
        go_ret
        exact ⟨ret_bool (by first | rfl | (simp; try omega) | omega), rfl⟩
      · rw [show decide (0 ≤ f ∧ f ≤ t ∧ t ≤ n) = false from decide_eq_false (fun h => h3 h.2.2)]
        have d3 : decide ((n : Int) < t) = true := decide_eq_true (by omega)
        go_enter Try.func20, Try.ntmps20
        go_wp2_with fail
        go_ret
        exact ⟨ret_bool (by first | rfl | (simp; try omega) | omega), rfl⟩
    · rw [show decide (0 ≤ f ∧ f ≤ t ∧ t ≤ n) = false from decide_eq_false (fun h => h2 h.2.1)]
      have d2 : decide (t < f) = true := decide_eq_true (by omega)
      go_enter Try.func20, Try.ntmps20
      go_wp2_with fail
      go_ret
      exact ⟨rfl, rfl⟩
  · rw [show decide (0 ≤ f ∧ f ≤ t ∧ t ≤ n) = false from decide_eq_false (fun h => h1 h.1)]
    have d1 : decide (f < 0) = true := decide_eq_true (by omega)
    go_enter Try.func20, Try.ntmps20
    go_wp2_with fail
    go_ret
    exact ⟨rfl, rfl⟩

theorem rmay_any (A : Option Addr) (n c : Nat) (f t : Int) (w : World) :
    Calls Try.prog 24 #[.slice A n c, .int .i64 f, .int .i64 t] w fun e w' => e = .returned (.bool (decide (0 ≤ f ∧ f ≤ t ∧ t ≤ n))) ∧ w = w' := by
  by_cases h1 : 0 ≤ f
  · by_cases h2 : f ≤ t
    · by_cases h3 : t ≤ n
      · have HV : Hid (decide (0 ≤ f ∧ f ≤ t ∧ t ≤ n) = true) := decide_eq_true ⟨h1, h2, h3⟩
        have d1 : decide (f < 0) = false := decide_eq_false (by omega)
        have d2 : decide (t < f) = false := decide_eq_false (by omega)
        have d3 : decide ((n : Int) < t) = false := decide_eq_false (by omega)
        go_enter Try.func24, Try.ntmps24
        go_wp2_with fail
        go_ret
        exact ⟨ret_bool (by first | rfl | (simp; try omega) | omega), rfl⟩
      · rw [show decide (0 ≤ f ∧ f ≤ t ∧ t ≤ n) = false from decide_eq_false (fun h => h3 h.2.2)]
        have d3 : decide ((n : Int) < t) = true := decide_eq_true (by omega)
        go_enter Try.func24, Try.ntmps24
        go_wp2_with fail
        go_ret
        exact ⟨ret_bool (by first | rfl | (simp; try omega) | omega), rfl⟩
    · rw [show decide (0 ≤ f ∧ f ≤ t ∧ t ≤ n) = false from decide_eq_false (fun h => h2 h.2.1)]
      have d2 : decide (t < f) = true := decide_eq_true (by omega)
      go_enter Try.func24, Try.ntmps24
      go_wp2_with fail
      go_ret
      exact ⟨rfl, rfl⟩
  · rw [show decide (0 ≤ f ∧ f ≤ t ∧ t ≤ n) = false from decide_eq_false (fun h => h1 h.1)]
    have d1 : decide (f < 0) = true := decide_eq_true (by omega)
    go_enter Try.func24, Try.ntmps24
    go_wp2_with fail
    go_ret
    exact ⟨rfl, rfl⟩

theorem dquoted_any (A : Option Addr) (n c : Nat) (l : List Int) (w : World) (h : Sl w 1 A n c (l.map (Value.int .i32))) (hn : n ≤ 1000000) (h0 : 0 < n) :
    Calls Try.prog 41 #[.slice A n c] w fun e w' => e = .returned (.int .i64 (quoF l : Nat)) ∧ Kept w w' := by
  have hcap := h.cap
  have hmax := h.max
  have HL := Lib.hid h.llen1
  obtain ⟨b, o, x, rfl, hx, hc, hbb⟩ := h.oneb (k := 0) h0
  have hq := quoF_at hx
  rw [List.drop_zero] at hq
  have hc' : w.cell? ⟨b, o, none⟩ = some (.int .i32 x) := hc
  clear hx hc
  obtain ⟨V, hV⟩ : ∃ V, quoF l = V := ⟨_, rfl⟩
  rw [hV] at hq ⊢
  have HQ := Lib.hid hq
  clear hq hV
  by_cases hquo : x = 34 ∨ x = 39
  rotate_left
  · have h34 : (x == 34) = false := by simp; omega
    have h39 : (x == 39) = false := by simp; omega
    have HV := Lib.hid (show V = 0 by rw [HQ.out, if_neg (by simp [isQuote, h34, h39])])
    have g34 : (x != 34) = true := by simp; omega
    have g39 : (x != 39) = true := by simp; omega
    clear hquo
    go_enter Try.func41, Try.ntmps41
    go_wp2_with fail
    go_ret
    exact ⟨ret_int (by rw [HV.out]; rfl), Kept.refl _⟩
  · have hQ : Hid (V = match closeF x (l.drop 1) with | some j => j + 2 | none => 0) := by
      unfold Hid
      rw [HQ.out, if_pos (by rcases hquo with rfl | rfl <;> decide)]
      rfl
    obtain ⟨F, hF⟩ : ∃ F, closeF x (l.drop 1) = F := ⟨_, rfl⟩
    rw [hF] at hQ
    have hQ2 := hQ.out
    clear hQ HQ
    have HQ := Lib.hid hQ2
    clear hQ2
    have HF := Lib.hid hF
    clear hF
    have walk : ∀ xx : Int, xx = x → (xx = 34 ∨ xx = 39) → True := fun _ _ _ => trivial
    clear walk
    rcases hquo with rfl | rfl
    · go_enter Try.func41, Try.ntmps41
      go_wp2_with fail
      go_loopw [3] (fun i wr => ∃ k : Nat, 1 + k ≤ n ∧ i = .int .i64 ((1 + k : Nat) : Int) ∧ (∃ q, wr = w.drewN q) ∧ Hid (F = (closeF 34 (l.drop (1 + k))).map (· + k))) (fun i _ => n - (intOf i).toNat)
      case atStart => exact ⟨0, by omega, by go_num, ⟨0, rfl⟩, by unfold Hid; rw [← HF.out]; simp⟩
      case round =>
        obtain ⟨k, hk, rfl, ⟨q, rfl⟩, hinv⟩ := hrel
        by_cases hlt : 1 + k < n
        · obtain ⟨b2, o2, y, hA, hy, hcy, hby⟩ := h.oneb (k := 1 + k) hlt
          injection hA with hA
          injection hA with hA1 hA2
          subst hA1 hA2
          have HY := Lib.hid hy
          clear hy
          by_cases hxe : y = 34
          · subst hxe
            have HV : Hid (V = k + 2) := by
              unfold Hid
              rw [HQ.out, hinv.out, closeF_yes HY.out]
              simp
            go_wp2_with fail
            go_quiet (fail)
            go_wp2_with fail
            go_ret
            exact ⟨ret_int (by rw [HV.out]; omega), by repeat (first | (with_reducible exact Kept.refl _) | (with_reducible refine Kept.drewN ?_ _) | (with_reducible refine Kept.drew ?_))⟩
          · have g2 : (y == 34) = false := by simpa using hxe
            have HE := Lib.hid hxe
            clear hxe
            go_wp2_with fail
            go_quiet (fail)
            go_wp2_with fail
            go_roundw
            case rel => exact ⟨k + 1, by omega, by go_num, ⟨_, rfl⟩, by
              unfold Hid
              rw [hinv.out, closeF_no HY.out HE.out, Option.map_map]
              congr 1
              funext z
              simp
              omega⟩
            case measure => simp [intOf]; omega
        · have HV : Hid (V = 0) := by
            unfold Hid
            rw [HQ.out, hinv.out, closeF_end (by have := HL.out; omega)]
            rfl
          go_wp2_with fail
          go_ret
          exact ⟨ret_int (by rw [HV.out]; rfl), (Kept.refl _).drewN _⟩
    · go_enter Try.func41, Try.ntmps41
      go_wp2_with fail
      go_loopw [3] (fun i wr => ∃ k : Nat, 1 + k ≤ n ∧ i = .int .i64 ((1 + k : Nat) : Int) ∧ (∃ q, wr = w.drewN q) ∧ Hid (F = (closeF 39 (l.drop (1 + k))).map (· + k))) (fun i _ => n - (intOf i).toNat)
      case atStart => exact ⟨0, by omega, by go_num, ⟨0, rfl⟩, by unfold Hid; rw [← HF.out]; simp⟩
      case round =>
        obtain ⟨k, hk, rfl, ⟨q, rfl⟩, hinv⟩ := hrel
        by_cases hlt : 1 + k < n
        · obtain ⟨b2, o2, y, hA, hy, hcy, hby⟩ := h.oneb (k := 1 + k) hlt
          injection hA with hA
          injection hA with hA1 hA2
          subst hA1 hA2
          have HY := Lib.hid hy
          clear hy
          by_cases hxe : y = 39
          · subst hxe
            have HV : Hid (V = k + 2) := by
              unfold Hid
              rw [HQ.out, hinv.out, closeF_yes HY.out]
              simp
            go_wp2_with fail
            go_quiet (fail)
            go_wp2_with fail
            go_ret
            exact ⟨ret_int (by rw [HV.out]; omega), by repeat (first | (with_reducible exact Kept.refl _) | (with_reducible refine Kept.drewN ?_ _) | (with_reducible refine Kept.drew ?_))⟩
          · have g2 : (y == 39) = false := by simpa using hxe
            have HE := Lib.hid hxe
            clear hxe
            go_wp2_with fail
            go_quiet (fail)
            go_wp2_with fail
            go_roundw
            case rel => exact ⟨k + 1, by omega, by go_num, ⟨_, rfl⟩, by
              unfold Hid
              rw [hinv.out, closeF_no HY.out HE.out, Option.map_map]
              congr 1
              funext z
              simp
              omega⟩
            case measure => simp [intOf]; omega
        · have HV : Hid (V = 0) := by
            unfold Hid
            rw [HQ.out, hinv.out, closeF_end (by have := HL.out; omega)]
            rfl
          go_wp2_with fail
          go_ret
          exact ⟨ret_int (by rw [HV.out]; rfl), (Kept.refl _).drewN _⟩

theorem dword_any (A : Option Addr) (n c : Nat) (l : List Int) (w : World) (h : Sl w 1 A n c (l.map (Value.int .i32))) (hn : n ≤ 1000000) (h0 : 0 < n) :
    Calls Try.prog 22 #[.slice A n c] w fun e w' => e = .returned (.tuple #[.int .i64 (wordF l).1, .int .i64 ((wordF l).2 : Nat)]) ∧ Kept w w' := by
  have H1 := fun w' (hk : Kept w w') => run_any _ isSpace (enters Try.func39 (by kernel_rfl) (by kernel_rfl)) (fun x w => (space_any x w).mono (fun e w' h => ⟨h.1, h.2 ▸ Kept.refl w⟩)) A n c l 0 w' (h.kept hk) (by omega)
  have H2 := fun w' (hk : Kept w w') => lead_any A n c l 0 w' (h.kept hk) (by omega)
  have H3 := fun w' (hk : Kept w w') => dquoted_any A n c l w' (h.kept hk) hn h0
  rw [List.drop_zero] at H1
  simp only [Int.toNat_zero, List.drop_zero] at H2
  unfold wordF
  obtain ⟨a1, e1⟩ : ∃ z, runF isSpace l = z := ⟨_, rfl⟩
  obtain ⟨a2, e2⟩ : ∃ z, leadF l = z := ⟨_, rfl⟩
  obtain ⟨a3, e3⟩ : ∃ z, quoF l = z := ⟨_, rfl⟩
  rw [e1] at H1 ⊢
  rw [e2] at H2 ⊢
  rw [e3] at H3 ⊢
  have C1 := Lib.hid H1
  have C2 := Lib.hid H2
  have C3 := Lib.hid H3
  clear H1 H2 H3 e1 e2 e3 h
  by_cases p1 : 0 < a1
  · rw [if_pos p1]
    have q1 : (0 : Int) < a1 := by omega
    go_enter Try.func22, Try.ntmps22
    go_wp2_with fail
    refine (C1.out _ (Kept.refl _)).mono ?_
    rintro e w1 ⟨rfl, k1⟩
    go_wp2_with fail
    go_ret2
    exact ⟨rfl, k1⟩
  · rw [if_neg p1]
    have q1 : ¬ (0 : Int) < a1 := by omega
    by_cases p2 : 0 < a2
    · rw [if_pos p2]
      have q2 : (0 : Int) < a2 := by omega
      go_enter Try.func22, Try.ntmps22
      go_wp2_with fail
      refine (C1.out _ (Kept.refl _)).mono ?_
      rintro e w1 ⟨rfl, k1⟩
      go_wp2_with fail
      refine (C2.out _ k1).mono ?_
      rintro e w2 ⟨rfl, k2⟩
      go_wp2_with fail
      go_ret2
      exact ⟨rfl, k1.trans k2⟩
    · rw [if_neg p2]
      have q2 : ¬ (0 : Int) < a2 := by omega
      by_cases p3 : 0 < a3
      · rw [if_pos p3]
        have q3 : (0 : Int) < a3 := by omega
        go_enter Try.func22, Try.ntmps22
        go_wp2_with fail
        refine (C1.out _ (Kept.refl _)).mono ?_
        rintro e w1 ⟨rfl, k1⟩
        go_wp2_with fail
        refine (C2.out _ k1).mono ?_
        rintro e w2 ⟨rfl, k2⟩
        go_wp2_with fail
        refine (C3.out _ (k1.trans k2)).mono ?_
        rintro e w3 ⟨rfl, k3⟩
        go_wp2_with fail
        go_ret2
        exact ⟨rfl, (k1.trans k2).trans k3⟩
      · rw [if_neg p3]
        have q3 : ¬ (0 : Int) < a3 := by omega
        go_enter Try.func22, Try.ntmps22
        go_wp2_with fail
        refine (C1.out _ (Kept.refl _)).mono ?_
        rintro e w1 ⟨rfl, k1⟩
        go_wp2_with fail
        refine (C2.out _ k1).mono ?_
        rintro e w2 ⟨rfl, k2⟩
        go_wp2_with fail
        refine (C3.out _ (k1.trans k2)).mono ?_
        rintro e w3 ⟨rfl, k3⟩
        go_wp2_with fail
        go_ret2
        exact ⟨rfl, (k1.trans k2).trans k3⟩

theorem dtill_any (A : Option Addr) (n c : Nat) (l : List Int) (skip : Nat) (s : ByteArray) (w : World) (h : Sl w 1 A n c (l.map (Value.int .i32))) (hs : 0 < s.size) (hb : s.size ≤ 1000) (hn : n ≤ 1000000) (hsk : skip ≤ n) (hasc : ∀ x ∈ strI s, x < 128) :
    Calls Try.prog 47 #[.slice A n c, .int .i64 skip, .string s] w fun e w' => e = .returned (.int .i64 (tillF skip (strI s) l : Nat)) ∧ Kept w w' := by
  have hcap := h.cap
  have hmax := h.max
  have hf := find_any A n c l skip s w h hs hb hn hsk hasc
  have hle := fun k => findF_le (p := strI s) (s := l.drop skip) (k := k)
  have hll := h.llen1
  have HLS := Lib.hid (strI_len s)
  have hT : tillF skip (strI s) l = match findF (strI s) (l.drop skip) with | some k => skip + k + s.size | none => 0 := by
    unfold tillF
    rw [strI_len]
    rfl
  rw [hT]
  clear hT
  rw [List.length_drop, strI_len, hll] at hle
  generalize findF (strI s) (l.drop skip) = F at hf hle ⊢
  have HF := Lib.hid hf
  clear hf hasc hll
  have d0 : decide (n < skip) = false := by simp; omega
  have d1 : ¬ ((n : Int) < skip) := by omega
  cases F with
  | none =>
    simp only [findR] at HF
    go_enter Try.func47, Try.ntmps47
    go_wp2_with fail
    refine HF.out.mono ?_
    rintro e w1 ⟨rfl, k1⟩
    go_wp2_with fail
    go_ret
    exact ⟨rfl, k1⟩
  | some k =>
    simp only [findR] at HF
    have hle2 := hle k rfl
    have ws2 : IntKind.i64.wrap (((skip + k : Nat) : Int) + s.size) = ((skip + k + s.size : Nat) : Int) := by rw [IntWalk.i64_in _ (by omega)]; omega
    go_enter Try.func47, Try.ntmps47
    go_wp2_with fail
    refine HF.out.mono ?_
    rintro e w1 ⟨rfl, k1⟩
    go_wp2_with fail
    go_ret
    exact ⟨by first | rfl | (apply ret_int; omega), k1⟩

theorem ddeclared_any (A : Option Addr) (n c : Nat) (l : List Int) (w : World) (h : Sl w 1 A n c (l.map (Value.int .i32))) (hn : n ≤ 1000000) :
    Calls Try.prog 48 #[.slice A n c] w fun e w' => e = .returned (.int .i64 (declS l : Nat)) ∧ Kept w w' := by
  have hcap := h.cap
  have hmax := h.max
  have HL := Lib.hid h.llen1
  obtain ⟨R, hR⟩ : ∃ R, angleF false 0 l = R := ⟨_, rfl⟩
  have hV : declS l = if R.2 then R.1 + 1 else 0 := by
    unfold declS
    rw [hR]
  obtain ⟨V, hVV⟩ : ∃ V, declS l = V := ⟨_, rfl⟩
  rw [hVV] at hV ⊢
  have HV := Lib.hid hV
  have HR := Lib.hid hR
  clear hV hVV hR
  go_enter Try.func48, Try.ntmps48
  go_wp2_with fail
  go_loopw [3] (fun i wr => ∃ k : Nat, k ≤ n ∧ i = .int .i64 k ∧ Kept w wr ∧ Hid (R = shiftF k (angleF false 0 (l.drop k)))) (fun i _ => n - (intOf i).toNat)
  case atStart => exact ⟨0, by omega, rfl, Kept.refl _, by unfold Hid; rw [← HR.out]; rfl⟩
  case round =>
    obtain ⟨k, hk, rfl, hkept, hinv⟩ := hrel
    by_cases hlt : k < n
    · obtain ⟨b, o, x, rfl, hx, hc, hbb⟩ := (h.kept hkept).oneb hlt
      have HX := Lib.hid hx
      have hq := quoF_at hx
      clear hx
      by_cases h62 : x = 62
      · subst h62
        have HVV := Lib.hid (show V = k + 1 by rw [HV.out, hinv.out, angleF_gt HX.out]; simp [shiftF])
        clear hq
        go_wp2_with fail
        go_ret
        exact ⟨ret_int (by rw [HVV.out]; omega), hkept⟩
      · have d62 : (x == 62) = false := by simpa using h62
        have H62 := Lib.hid h62
        clear h62
        have hcut : ∀ wv : World, (Instr.slice 22 (.slice (some ⟨b, o, none⟩) n c) (some (.int .i64 k)) none none).run Try.prog wv = .ok (.slice (cutA (some ⟨b, o, none⟩) c k 1) (n - k) (c - k)) wv := run_cut_l appT_runes (some ⟨b, o, none⟩) n c k (by omega)
        have hsl := (h.kept hkept).from1 (i := k) (by omega)
        obtain ⟨CA, hCA⟩ : ∃ CA, cutA (some ⟨b, o, none⟩) c k 1 = CA := ⟨_, rfl⟩
        rw [hCA] at hcut hsl
        have HQD := Lib.hid (dquoted_any CA (n - k) (c - k) (l.drop k) wr hsl (by omega) (by omega))
        have hqle := quoF_le (l.drop k)
        rw [List.length_drop, HL.out] at hqle
        obtain ⟨Z, hZ⟩ : ∃ Z, quoF (l.drop k) = Z := ⟨_, rfl⟩
        rw [hZ] at HQD hq hqle
        have HZ := Lib.hid hq
        clear hq hZ hCA hsl
        by_cases hz : Z = 0
        · subst hz
          by_cases hquo : x = 34 ∨ x = 39
          · have HVV : Hid (V = 0) := by
              have hqt : isQuote x = true := by rcases hquo with rfl | rfl <;> decide
              have h1 := HZ.out
              rw [if_pos hqt] at h1
              cases hF : closeF x (l.drop (k + 1)) with
              | some j => rw [hF] at h1; simp at h1
              | none =>
                unfold Hid
                rw [HV.out, hinv.out, angleF_open HX.out hqt hF]
                simp [shiftF]
            rcases hquo with rfl | rfl
            · go_wp2_with fail
              refine HQD.out.mono ?_
              rintro e w1 ⟨rfl, k1⟩
              have hc1 := k1.cell hc
              go_wp2_with fail
              go_ret
              exact ⟨ret_int (by rw [HVV.out]; rfl), hkept.trans k1⟩
            · go_wp2_with fail
              refine HQD.out.mono ?_
              rintro e w1 ⟨rfl, k1⟩
              have hc1 := k1.cell hc
              go_wp2_with fail
              go_ret
              exact ⟨ret_int (by rw [HVV.out]; rfl), hkept.trans k1⟩
          · have h34 : (x == 34) = false := by simp; omega
            have h39 : (x == 39) = false := by simp; omega
            have HNQ := Lib.hid (show isQuote x = false by simp [isQuote, h34, h39])
            clear hquo
            go_wp2_with fail
            refine HQD.out.mono ?_
            rintro e w1 ⟨rfl, k1⟩
            have hc1 := k1.cell hc
            go_wp2_with fail
            go_roundw
            case rel => exact ⟨k + 1, by omega, by go_num, hkept.trans k1, by
              unfold Hid
              rw [hinv.out, angleF_on HX.out HNQ.out H62.out (by simp), shiftF_shiftF, Nat.add_comm 1 k]⟩
            case measure => simp [intOf]; omega
        · have hq2 : ∃ j, Z = j + 2 ∧ isQuote x = true ∧ closeF x (l.drop (k + 1)) = some j := by
            have h1 := HZ.out
            by_cases hqt : isQuote x = true
            · rw [if_pos hqt] at h1
              cases hF : closeF x (l.drop (k + 1)) with
              | some j => rw [hF] at h1; exact ⟨j, h1, hqt, rfl⟩
              | none => rw [hF] at h1; exact absurd h1 hz
            · rw [if_neg hqt] at h1
              exact absurd h1 hz
          obtain ⟨j, rfl, hqt, hF⟩ := hq2
          have HQT := Lib.hid (show _ ∧ _ from ⟨hqt, hF⟩)
          clear hqt hF HZ hz
          have e0 : ((j + 2 : Nat) : Int) ≠ 0 := by omega
          have e1 : ¬ (((j + 2 : Nat) : Int) < 1) := by omega
          go_wp2_with fail
          refine HQD.out.mono ?_
          rintro e w1 ⟨rfl, k1⟩
          have hc1 := k1.cell hc
          go_wp2_with fail
          go_roundw
          case rel => exact ⟨k + (j + 2), by omega, by go_num, hkept.trans k1, by
            unfold Hid
            rw [hinv.out, angleF_quote HX.out HQT.out.1 HQT.out.2, shiftF_shiftF, Nat.add_comm (j + 2) k]⟩
          case measure => simp [intOf]; omega
    · have HVV := Lib.hid (show V = 0 by rw [HV.out, hinv.out, angleF_end (by have := HL.out; omega)]; simp [shiftF])
      go_wp2_with fail
      go_ret
      exact ⟨ret_int (by rw [HVV.out]; rfl), hkept⟩

theorem dnamed_any (A : Option Addr) (n c : Nat) (l : List Int) (w : World) (h : Sl w 1 A n c (l.map (Value.int .i32))) (hn : n ≤ 1000000) (h0 : 0 < n) (h37 : l[0]? = some 37) :
    Calls Try.prog 49 #[.slice A n c] w fun e w' => e = .returned (.int .i64 (namedS l : Nat)) ∧ Kept w w' := by
  have hcap := h.cap
  have hmax := h.max
  have hll := h.llen1
  have H1 := fun w' (hk : Kept w w') => lead_any A n c l 1 w' (h.kept hk) (by omega)
  simp only [show (1 : Int).toNat = 1 from rfl] at H1
  have hle := leadF_le (l.drop 1)
  rw [List.length_drop, hll] at hle
  have H2 := fun w' (hk : Kept w w') => starts_any A n c l (leadF (l.drop 1) + 1) ⟨#[59]⟩ w' (h.kept hk) (by decide) (by decide) hn (by omega) (by decide)
  rw [show strI ⟨#[59]⟩ = [59] from rfl] at H2
  have hN : namedS l = if 0 < leadF (l.drop 1) ∧ startsF [59] (l.drop (leadF (l.drop 1) + 1)) = true then leadF (l.drop 1) + 2 else 0 := by
    unfold namedS
    simp only [h37, true_and]
  rw [hN]
  obtain ⟨b, o, x, rfl, hx, hc, hbb⟩ := h.oneb (k := 0) h0
  obtain rfl : x = 37 := by rw [h37] at hx; injection hx with hx; exact hx.symm
  have hc' : w.cell? ⟨b, o, none⟩ = some (.int .i32 37) := hc
  clear hN h37 hx hc
  obtain ⟨q, hq⟩ : ∃ q, startsF [59] (l.drop (leadF (l.drop 1) + 1)) = q := ⟨_, rfl⟩
  obtain ⟨a1, e1⟩ : ∃ z, leadF (l.drop 1) = z := ⟨_, rfl⟩
  rw [hq] at H2 ⊢
  rw [e1] at H1 H2 hle ⊢
  have ws : IntKind.i64.wrap ((a1 : Int) + 1) = ((a1 + 1 : Nat) : Int) := by rw [IntWalk.i64_in _ (by omega)]; omega
  have ws2 : IntKind.i64.wrap ((a1 : Int) + 2) = ((a1 + 2 : Nat) : Int) := by rw [IntWalk.i64_in _ (by omega)]; omega
  have C1 := Lib.hid H1
  have C2 := Lib.hid H2
  clear H1 H2 hq e1 hll h
  by_cases p1 : a1 = 0
  · subst p1
    rw [if_neg (by omega)]
    go_enter Try.func49, Try.ntmps49
    go_wp2_with fail
    refine (C1.out _ (Kept.refl _)).mono ?_
    rintro e w1 ⟨rfl, k1⟩
    have hc1 := k1.cell hc'
    go_wp2_with fail
    go_ret
    exact ⟨rfl, k1⟩
  · have q1 : ¬ ((a1 : Int) = 0) := by omega
    cases q
    · rw [if_neg (by simp)]
      go_enter Try.func49, Try.ntmps49
      go_wp2_with fail
      refine (C1.out _ (Kept.refl _)).mono ?_
      rintro e w1 ⟨rfl, k1⟩
      have hc1 := k1.cell hc'
      go_wp2_with fail
      refine (C2.out _ k1).mono ?_
      rintro e w2 ⟨rfl, k2⟩
      go_wp2_with fail
      go_ret
      exact ⟨rfl, k1.trans k2⟩
    · rw [if_pos ⟨by omega, rfl⟩]
      go_enter Try.func49, Try.ntmps49
      go_wp2_with fail
      refine (C1.out _ (Kept.refl _)).mono ?_
      rintro e w1 ⟨rfl, k1⟩
      have hc1 := k1.cell hc'
      go_wp2_with fail
      refine (C2.out _ k1).mono ?_
      rintro e w2 ⟨rfl, k2⟩
      go_wp2_with fail
      go_ret
      exact ⟨by first | rfl | (apply ret_int; omega), k1.trans k2⟩
end Go.Proofs.Ytnfcfpcpfnhcnaa
