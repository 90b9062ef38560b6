/- Layer 9, the document's: passed, closing: walked. Printed by gen_dtdx.py. -/
import Derived.Test.YtnfcfpcpfnhcnaaDtdU
namespace Go.Proofs.Ytnfcfpcpfnhcnaa
open Go.RowKit
attribute [local go_sem ↓] Go.wp_at_zero Go.wp_at_succ

/-- Behind what is passed over; -1: it does not end. -/
def rpsR (a D : Nat) : Int := if D = 0 then -1 else ((a + D : Nat) : Int)
set_option maxHeartbeats 8000000 in
theorem rpassed_any (A : Option Addr) (n c : Nat) (l : List Int) (a : Nat) (w : World) (h : Sl w 1 A n c (l.map (Value.int .i32))) (hn : n ≤ 1000000) (ha : a < n) (hr : Rn l) :
    Calls Try.prog 46 #[.slice A n c, .int .i64 a] w fun e w' => e = .returned (.int .i64 (rpsR a (passF (l.drop a)))) ∧ Kept w w' := by
  have hcap := h.cap
  have hmax := h.max
  have hl := h.llen1
  obtain ⟨b, o, x, rfl, hx, hc, hbb⟩ := h.oneb (k := a) ha
  have hc0 := fun w' (hk : Kept w w') => rstarts_any (some ⟨b, o, none⟩) n c l a ⟨#[60, 33, 45, 45]⟩ w' (h.kept hk) (by decide) (by decide) hn (by omega) (by decide) hr
  rw [show strI ⟨#[60, 33, 45, 45]⟩ = cmt from rfl] at hc0
  have hs0 := startsF_len (p := cmt) (s := l.drop a)
  rw [List.length_drop, hl] at hs0
  have hc1 := fun w' (hk : Kept w w') => rstarts_any (some ⟨b, o, none⟩) n c l a ⟨#[60, 63]⟩ w' (h.kept hk) (by decide) (by decide) hn (by omega) (by decide) hr
  rw [show strI ⟨#[60, 63]⟩ = pis from rfl] at hc1
  have hs1 := startsF_len (p := pis) (s := l.drop a)
  rw [List.length_drop, hl] at hs1
  have hu0 := fun (hle : a + 4 ≤ n) w' (hk : Kept w w') => rfind_any (some ⟨b, o, none⟩) n c l (a + 4) ⟨#[45, 45, 62]⟩ w' (h.kept hk) (by decide) (by decide) hn hle (by decide) hr
  have hu1 := fun (hle : a + 2 ≤ n) w' (hk : Kept w w') => rfind_any (some ⟨b, o, none⟩) n c l (a + 2) ⟨#[63, 62]⟩ w' (h.kept hk) (by decide) (by decide) hn hle (by decide) hr
  rw [show strI ⟨#[45, 45, 62]⟩ = cmt2 from rfl] at hu0
  rw [show strI ⟨#[63, 62]⟩ = pis2 from rfl] at hu1
  have hu2 := fun w' (hk : Kept w w') => rbracket_any (some ⟨b, o, none⟩) n c l a w' (h.kept hk) hn (by omega)
  have hz0e : tillF 4 cmt2 (l.drop a) = match findF cmt2 (l.drop (a + 4)) with | some k => 4 + k + 3 | none => 0 := by
    unfold tillF
    rw [List.drop_drop]
    rfl
  have hz1e : tillF 2 pis2 (l.drop a) = match findF pis2 (l.drop (a + 2)) with | some k => 2 + k + 2 | none => 0 := by
    unfold tillF
    rw [List.drop_drop]
    rfl
  have hx0 : (l.drop a)[0]? = some x := by rw [List.getElem?_drop]; exact hx
  have hfl0 : ∀ k, findF cmt2 (l.drop (a + 4)) = some k → a + 4 + k + 3 ≤ n := fun k e => by
    have h1 := findF_le e
    rw [List.length_drop, hl] at h1
    simp [cmt2] at h1
    omega
  have hfl1 : ∀ k, findF pis2 (l.drop (a + 2)) = some k → a + 2 + k + 2 ≤ n := fun k e => by
    have h1 := findF_le e
    rw [List.length_drop, hl] at h1
    simp [pis2] at h1
    omega
  have hdl := declS_le (l.drop a)
  rw [List.length_drop, hl] at hdl
  have hst0 : x ≠ 60 → startsF cmt (l.drop a) = false ∧ startsF pis (l.drop a) = false := fun e => by
    rw [drop_get hx]
    have e1 : ((60 : Int) == x) = false := by simp; omega
    exact ⟨by unfold cmt; rw [startsF_cons, e1]; rfl, by unfold pis; rw [startsF_cons, e1]; rfl⟩
  obtain ⟨V, hV⟩ : ∃ V, rpsR a (passF (l.drop a)) = V := ⟨_, rfl⟩
  rw [hV]
  have hP : V = rpsR a (if startsF cmt (l.drop a) then tillF 4 cmt2 (l.drop a) else if startsF pis (l.drop a) then tillF 2 pis2 (l.drop a) else if x = 60 then declS (l.drop a) else 1) := by
    rw [← hV]
    unfold passF
    rw [hx0]
    simp only [Option.some.injEq]
  rw [hz0e, hz1e] at hP
  clear hz0e hz1e hx0 hx hV
  obtain ⟨b0, hb0⟩ : ∃ b, startsF cmt (l.drop a) = b := ⟨_, rfl⟩
  rw [hb0] at hc0 hs0 hP hst0
  have C0 := Lib.hid hc0
  clear hc0 hb0
  obtain ⟨b1, hb1⟩ : ∃ b, startsF pis (l.drop a) = b := ⟨_, rfl⟩
  rw [hb1] at hc1 hs1 hP hst0
  have C1 := Lib.hid hc1
  clear hc1 hb1
  obtain ⟨F0, hF0⟩ : ∃ F, findF cmt2 (l.drop (a + 4)) = F := ⟨_, rfl⟩
  obtain ⟨F1, hF1⟩ : ∃ F, findF pis2 (l.drop (a + 2)) = F := ⟨_, rfl⟩
  obtain ⟨D, hD⟩ : ∃ D, declS (l.drop a) = D := ⟨_, rfl⟩
  rw [hF0] at hu0 hP hfl0
  rw [hF1] at hu1 hP hfl1
  rw [hD] at hu2 hP hdl
  have U0 := Lib.hid hu0
  have U1 := Lib.hid hu1
  have U2 := Lib.hid hu2
  have HP := Lib.hid hP
  clear hu0 hu1 hu2 hF0 hF1 hD hP h
  have ws1 : IntKind.i64.wrap ((a : Int) + 1) = (a : Int) + 1 := IntWalk.i64_in _ (by omega)
  have ws2 : IntKind.i64.wrap ((a : Int) + 2) = ((a + 2 : Nat) : Int) := by rw [IntWalk.i64_in _ (by omega)]; omega
  have ws4 : IntKind.i64.wrap ((a : Int) + 4) = ((a + 4 : Nat) : Int) := by rw [IntWalk.i64_in _ (by omega)]; omega
  by_cases h60 : x = 60
  rotate_left
  · have g60 : (x != 60) = true := by simpa using h60
    have d60 : (x == 60) = false := by simpa using h60
    obtain ⟨rfl, rfl⟩ := hst0 h60
    have HVV : Hid (V = (a : Int) + 1) := by
      unfold Hid
      rw [HP.out]
      simp [rpsR, h60]
    clear hst0 hs0 hs1 h60
    go_enter Try.func46, Try.ntmps46
    go_wp2_with fail
    go_ret
    exact ⟨ret_int HVV.out.symm, Kept.refl _⟩
  subst h60
  clear hst0
  cases b0
  rotate_left
  · have hle : a + 4 ≤ n := by have := hs0 rfl; simp [cmt] at this; omega
    clear hs0 hs1
    cases F0 with
    | none =>
      have HVV : Hid (V = -1) := by
        unfold Hid
        rw [HP.out]
        simp [rpsR]
      simp only [rfindR] at U0
      go_enter Try.func46, Try.ntmps46
      go_wp2_with fail
      have q := Kept.refl w
      refine (C0.out _ q).mono ?_
      rintro e w9 ⟨rfl, h9⟩
      have q := q.trans h9
      go_wp2_with fail
      refine (U0.out hle _ q).mono ?_
      rintro e w9 ⟨rfl, h9⟩
      have q := q.trans h9
      go_wp2_with fail
      go_ret
      exact ⟨ret_int HVV.out.symm, q⟩
    | some k =>
      have hk4 := hfl0 k rfl
      have HVV : Hid (V = ((a + 4 + k : Nat) : Int) + 3) := by
        unfold Hid
        rw [HP.out]
        simp [rpsR]; omega
      simp only [rfindR] at U0
      have qk : ¬ ((a + 4 + k : Nat) : Int) < 0 := by omega
      have wk : IntKind.i64.wrap (((a + 4 + k : Nat) : Int) + 3) = ((a + 4 + k : Nat) : Int) + 3 := IntWalk.i64_in _ (by omega)
      go_enter Try.func46, Try.ntmps46
      go_wp2_with fail
      have q := Kept.refl w
      refine (C0.out _ q).mono ?_
      rintro e w9 ⟨rfl, h9⟩
      have q := q.trans h9
      go_wp2_with fail
      refine (U0.out hle _ q).mono ?_
      rintro e w9 ⟨rfl, h9⟩
      have q := q.trans h9
      go_wp2_with fail
      go_ret
      exact ⟨ret_int HVV.out.symm, q⟩
  cases b1
  rotate_left
  · have hle : a + 2 ≤ n := by have := hs1 rfl; simp [pis] at this; omega
    clear hs0 hs1
    cases F1 with
    | none =>
      have HVV : Hid (V = -1) := by
        unfold Hid
        rw [HP.out]
        simp [rpsR]
      simp only [rfindR] at U1
      go_enter Try.func46, Try.ntmps46
      go_wp2_with fail
      have q := Kept.refl w
      refine (C0.out _ q).mono ?_
      rintro e w9 ⟨rfl, h9⟩
      have q := q.trans h9
      go_wp2_with fail
      refine (C1.out _ q).mono ?_
      rintro e w9 ⟨rfl, h9⟩
      have q := q.trans h9
      go_wp2_with fail
      refine (U1.out hle _ q).mono ?_
      rintro e w9 ⟨rfl, h9⟩
      have q := q.trans h9
      go_wp2_with fail
      go_ret
      exact ⟨ret_int HVV.out.symm, q⟩
    | some k =>
      have hk4 := hfl1 k rfl
      have HVV : Hid (V = ((a + 2 + k : Nat) : Int) + 2) := by
        unfold Hid
        rw [HP.out]
        simp [rpsR]; omega
      simp only [rfindR] at U1
      have qk : ¬ ((a + 2 + k : Nat) : Int) < 0 := by omega
      have wk : IntKind.i64.wrap (((a + 2 + k : Nat) : Int) + 2) = ((a + 2 + k : Nat) : Int) + 2 := IntWalk.i64_in _ (by omega)
      go_enter Try.func46, Try.ntmps46
      go_wp2_with fail
      have q := Kept.refl w
      refine (C0.out _ q).mono ?_
      rintro e w9 ⟨rfl, h9⟩
      have q := q.trans h9
      go_wp2_with fail
      refine (C1.out _ q).mono ?_
      rintro e w9 ⟨rfl, h9⟩
      have q := q.trans h9
      go_wp2_with fail
      refine (U1.out hle _ q).mono ?_
      rintro e w9 ⟨rfl, h9⟩
      have q := q.trans h9
      go_wp2_with fail
      go_ret
      exact ⟨ret_int HVV.out.symm, q⟩
  clear hs0 hs1
  by_cases hD0 : D = 0
  · subst hD0
    have HVV : Hid (V = -1) := by
      unfold Hid
      rw [HP.out]
      simp [rpsR]
    simp only [rbrR, if_true] at U2
    go_enter Try.func46, Try.ntmps46
    go_wp2_with fail
    have q := Kept.refl w
    refine (C0.out _ q).mono ?_
    rintro e w9 ⟨rfl, h9⟩
    have q := q.trans h9
    go_wp2_with fail
    refine (C1.out _ q).mono ?_
    rintro e w9 ⟨rfl, h9⟩
    have q := q.trans h9
    go_wp2_with fail
    refine (U2.out _ q).mono ?_
    rintro e w9 ⟨rfl, h9⟩
    have q := q.trans h9
    go_wp2_with fail
    go_ret
    exact ⟨ret_int HVV.out.symm, q⟩
  · have hbr : rbrR a D = ((a + D - 1 : Nat) : Int) := by unfold rbrR; rw [if_neg hD0]; omega
    rw [hbr] at U2
    obtain ⟨m, hm⟩ : ∃ m, a + D - 1 = m := ⟨_, rfl⟩
    rw [hm] at U2
    have HVV : Hid (V = (m : Int) + 1) := by
      unfold Hid
      rw [HP.out]
      simp [rpsR, hD0]; omega
    have qk : ¬ (m : Int) < 0 := by omega
    have wk : IntKind.i64.wrap ((m : Int) + 1) = (m : Int) + 1 := IntWalk.i64_in _ (by omega)
    clear hbr hm
    go_enter Try.func46, Try.ntmps46
    go_wp2_with fail
    have q := Kept.refl w
    refine (C0.out _ q).mono ?_
    rintro e w9 ⟨rfl, h9⟩
    have q := q.trans h9
    go_wp2_with fail
    refine (C1.out _ q).mono ?_
    rintro e w9 ⟨rfl, h9⟩
    have q := q.trans h9
    go_wp2_with fail
    refine (U2.out _ q).mono ?_
    rintro e w9 ⟨rfl, h9⟩
    have q := q.trans h9
    go_wp2_with fail
    go_ret
    exact ⟨ret_int HVV.out.symm, q⟩

set_option maxHeartbeats 4000000 in
theorem rclosing_any (A : Option Addr) (n c : Nat) (l : List Int) (a : Nat) (w : World) (h : Sl w 1 A n c (l.map (Value.int .i32))) (hn : n ≤ 1000000) (ha : a ≤ n) (hr : Rn l) :
    Calls Try.prog 27 #[.slice A n c, .int .i64 a] w fun e w' => e = .returned (.int .i64 ((a + closS (l.drop a) : Nat) : Int)) ∧ Kept w w' := by
  have hcap := h.cap
  have hmax := h.max
  have HL := Lib.hid h.llen1
  have HRN := Lib.hid hr
  obtain ⟨R, hR⟩ : ∃ R, a + closS (l.drop a) = R := ⟨_, rfl⟩
  rw [hR]
  have HR := Lib.hid hR
  clear hR hr
  go_enter Try.func27, Try.ntmps27
  go_wp2_with fail
  go_loopw [1] (fun i wr => ∃ z : Int, i = .int .i64 z ∧ Kept w wr ∧ ((z = -1 ∧ R = n) ∨ ∃ k : Nat, z = k ∧ k ≤ n ∧ Hid (R = k + closS (l.drop k)))) (fun i _ => n + 1 - (intOf i % 9223372036854775807).toNat)
  case atStart => exact ⟨a, rfl, Kept.refl _, .inr ⟨a, rfl, ha, HR.out.symm⟩⟩
  case round =>
    obtain ⟨z, rfl, hkept, hz⟩ := hrel
    rcases hz with ⟨rfl, hRn⟩ | ⟨k, rfl, hk, hinv⟩
    · have HRN2 := Lib.hid hRn
      clear hRn
      go_wp2_with fail
      go_ret
      exact ⟨ret_int (by rw [HRN2.out]), hkept⟩
    have q0 : (0 : Int) ≤ k := by omega
    have q1 : ¬ (k : Int) < 0 := by omega
    by_cases hlt : k < n
    rotate_left
    · have HV := Lib.hid (show R = k by rw [hinv.out, List.drop_eq_nil_of_le (by have := HL.out; omega), closS_nil]; rfl)
      go_wp2_with fail
      go_ret
      exact ⟨ret_int (by rw [HV.out] <;> omega), hkept⟩
    obtain ⟨b, o, x, rfl, hx, hc, hbb⟩ := (h.kept hkept).oneb hlt
    by_cases h93 : x = 93
    · subst h93
      have HV := Lib.hid (show R = k by rw [hinv.out, closS_hit hx]; rfl)
      clear hx
      go_wp2_with fail
      go_ret
      exact ⟨ret_int (by rw [HV.out] <;> omega), hkept⟩
    have d93 : (x == 93) = false := by simpa using h93
    have g93 : (x != 93) = true := by simpa using h93
    have HPS := Lib.hid (rpassed_any (some ⟨b, o, none⟩) n c l k wr (h.kept hkept) hn hlt HRN.out)
    have hple := passF_le (l.drop k) (by rw [drop_get hx]; simp)
    rw [List.length_drop, HL.out] at hple
    obtain ⟨D, hD⟩ : ∃ D, passF (l.drop k) = D := ⟨_, rfl⟩
    rw [hD] at HPS hple
    by_cases hD0 : D = 0
    · subst hD0
      have HV := Lib.hid (show R = n by rw [hinv.out, closS_none hx h93 hD, HL.out]; omega)
      simp only [rpsR, if_true] at HPS
      clear hx h93 hD
      go_wp2_with fail
      refine HPS.out.mono ?_
      rintro e w1 ⟨rfl, k1⟩
      go_wp2_with fail
      go_roundw
      case rel => exact ⟨-1, rfl, hkept.trans k1, .inl ⟨rfl, HV.out⟩⟩
      case measure => simp [intOf]; omega
    · have HV := Lib.hid (show R = k + D + closS (l.drop (k + D)) by rw [hinv.out, closS_on hx h93 hD hD0, Nat.add_assoc])
      have hps : rpsR k D = ((k + D : Nat) : Int) := by unfold rpsR; rw [if_neg hD0]
      rw [hps] at HPS
      clear hx h93 hD hps
      go_wp2_with fail
      refine HPS.out.mono ?_
      rintro e w1 ⟨rfl, k1⟩
      go_wp2_with fail
      go_roundw
      case rel => exact ⟨((k + D : Nat) : Int), by first | rfl | go_num, hkept.trans k1, .inr ⟨k + D, rfl, by omega, HV⟩⟩
      case measure => simp [intOf]; omega
end Go.Proofs.Ytnfcfpcpfnhcnaa
