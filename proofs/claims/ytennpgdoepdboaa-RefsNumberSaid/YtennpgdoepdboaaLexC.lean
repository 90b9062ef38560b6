/- Layer 7: subset, doctypes: walked. -/
import Derived.Test.YtennpgdoepdboaaLexB
namespace Go.Proofs.Ytennpgdoepdboaa
open Go.RowKit
attribute [local go_sem ↓] Go.wp_at_zero Go.wp_at_succ

theorem subG_end {l : List Int} {k : Nat} (h : l.length ≤ k) : subG (l.drop k) = (0, false) := by
  rw [List.drop_eq_nil_of_le h, subG]
theorem subG_close {l : List Int} {k : Nat} (h : l[k]? = some 93) : subG (l.drop k) = (1, true) := by
  rw [drop_get h, subG, if_pos rfl]
theorem subG_on {l : List Int} {k d : Nat} {x : Int} (h : l[k]? = some x) (hx : x ≠ 93) (hd : declF (l.drop k) = (d, true)) : subG (l.drop k) = shiftF d (subG (l.drop (k + d))) := by
  have hne : l.drop k ≠ [] := by rw [drop_get h]; simp
  obtain ⟨h1, _, _⟩ := declF_le hne
  rw [drop_get h] at hd h1
  rw [drop_get h, subG, if_neg hx, hd]
  rw [hd] at h1
  dsimp only at h1
  rw [if_pos rfl, List.drop_drop, show k + 1 + (d - 1) = k + d by omega]
theorem subG_off {l : List Int} {k d : Nat} {x : Int} (h : l[k]? = some x) (hx : x ≠ 93) (hd : declF (l.drop k) = (d, false)) : subG (l.drop k) = (l.length - k, false) := by
  have hk := (List.getElem?_eq_some_iff.1 h).1
  rw [drop_get h] at hd
  rw [drop_get h, subG, if_neg hx, hd, if_neg (by simp), List.length_drop, show l.length - (k + 1) + 1 = l.length - k by omega]
theorem dtG_end {l : List Int} {k : Nat} (h : l.length ≤ k) : dtG (l.drop k) = (0, false) := by
  rw [List.drop_eq_nil_of_le h, dtG]
theorem dtG_gt {l : List Int} {k : Nat} (h : l[k]? = some 62) : dtG (l.drop k) = (1, true) := by
  rw [drop_get h, dtG, if_pos rfl]
theorem dtG_quote {l : List Int} {k j : Nat} {x : Int} (h : l[k]? = some x) (hq : isQuote x = true) (hj : closeF x (l.drop (k + 1)) = some j) : dtG (l.drop k) = shiftF (j + 2) (dtG (l.drop (k + (j + 2)))) := by
  have hx : x ≠ 62 := by
    rintro rfl
    simp [isQuote] at hq
  rw [drop_get h, dtG, if_neg hx, if_pos hq, hj]
  simp only [List.drop_drop]
  rw [show k + 1 + (j + 1) = k + (j + 2) by omega]
theorem dtG_open {l : List Int} {k : Nat} {x : Int} (h : l[k]? = some x) (hq : isQuote x = true) (hj : closeF x (l.drop (k + 1)) = none) : dtG (l.drop k) = (l.length - k, false) := by
  have hk := (List.getElem?_eq_some_iff.1 h).1
  have hx : x ≠ 62 := by
    rintro rfl
    simp [isQuote] at hq
  rw [drop_get h, dtG, if_neg hx, if_pos hq, hj]
  simp only [List.length_drop]
  rw [show l.length - (k + 1) + 1 = l.length - k by omega]
theorem dtG_sub {l : List Int} {k d : Nat} (h : l[k]? = some 91) (hs : subG (l.drop (k + 1)) = (d, true)) : dtG (l.drop k) = shiftF (d + 1) (dtG (l.drop (k + (d + 1)))) := by
  rw [drop_get h, dtG, if_neg (by decide), if_neg (by decide), if_pos rfl, hs]
  simp only [List.drop_drop, if_true]
  rw [show k + 1 + d = k + (d + 1) by omega]
theorem dtG_subo {l : List Int} {k d : Nat} (h : l[k]? = some 91) (hs : subG (l.drop (k + 1)) = (d, false)) : dtG (l.drop k) = (l.length - k, false) := by
  have hk := (List.getElem?_eq_some_iff.1 h).1
  rw [drop_get h, dtG, if_neg (by decide), if_neg (by decide), if_pos rfl, hs, if_neg (by simp), List.length_drop, show l.length - (k + 1) + 1 = l.length - k by omega]
theorem dtG_on {l : List Int} {k : Nat} {x : Int} (h : l[k]? = some x) (h1 : x ≠ 62) (hq : isQuote x = false) (h2 : x ≠ 91) : dtG (l.drop k) = shiftF 1 (dtG (l.drop (k + 1))) := by
  rw [drop_get h, dtG, if_neg h1, if_neg (by simp [hq]), if_neg h2]
def okOf : Value → Nat
  | .bool true => 1
  | _ => 0
theorem shiftF_zero (r : Nat × Bool) : shiftF 0 r = r := rfl

theorem lsubset_any (A : Option Addr) (n c : Nat) (l : List Int) (a : Nat) (w : World) (h : Sl w 1 A n c (l.map (Value.int .i32))) (hn : n ≤ 1000000) (ha : a < n) :
    Calls Try.prog 78 #[.slice A n c, .int .i64 a] w fun e w' => e = .returned (.tuple #[.int .i64 ((a + 1 + (subG (l.drop (a + 1))).1 : Nat) : Int), .bool (subG (l.drop (a + 1))).2]) ∧ Kept w w' := by
  have hcap := h.cap
  have hmax := h.max
  have hl := h.llen1
  have HL := Lib.hid hl
  clear hl
  obtain ⟨R, hR⟩ : ∃ R, subG (l.drop (a + 1)) = R := ⟨_, rfl⟩
  rw [hR]
  have HR := Lib.hid hR
  clear hR
  go_enter Try.func78, Try.ntmps78
  go_wp2_with fail
  go_loopw [1, 6] (fun i b wr => ∃ (k : Nat) (ok : Bool), a + 1 + k ≤ n ∧ i = .int .i64 ((a + 1 + k : Nat) : Int) ∧ b = .bool ok ∧ Kept w wr ∧ Hid ((ok = true ∧ R = shiftF k (subG (l.drop (a + 1 + k)))) ∨ (ok = false ∧ R = (n - (a + 1), false)))) (fun i b _ => okOf b * (n + 1 - (intOf i).toNat))
  case atStart => exact ⟨0, true, by omega, by go_num, rfl, Kept.refl _, .inl ⟨rfl, HR.out.symm⟩⟩
  case round =>
    obtain ⟨k, ok, hk, rfl, rfl, hkept, hinv⟩ := hrel
    have fin : ok = false ∨ n ≤ a + 1 + k → R = (n - (a + 1), false) := by
      intro hf
      rcases hinv.out with ⟨rfl, h2⟩ | ⟨_, h2⟩
      · rcases hf with hf | hf
        · cases hf
        · rw [h2, subG_end (by rw [HL.out]; omega)]
          simp [shiftF]
          omega
      · exact h2
    have FIN := Lib.hid fin
    clear fin
    cases ok
    · have hr := FIN.out (.inl rfl)
      have HRR := Lib.hid hr
      clear hr
      by_cases hlt : a + 1 + k < n
      · go_wp2_with fail
        go_ret2
        rw [HRR.out]
        exact ⟨by simp; omega, hkept⟩
      · go_wp2_with fail
        go_ret2
        rw [HRR.out]
        exact ⟨by simp; omega, hkept⟩
    · by_cases hlt : a + 1 + k < n
      · obtain ⟨b, o, x, rfl, hx, hc, hbb⟩ := (h.kept hkept).oneb (k := a + 1 + k) hlt
        have hI : R = shiftF k (subG (l.drop (a + 1 + k))) := by
          rcases hinv.out with h1 | h1
          · exact h1.2
          · cases h1.1
        have HI := Lib.hid hI
        have HX := Lib.hid hx
        clear hI hx
        by_cases h93 : x = 93
        · subst h93
          have HRR := Lib.hid (show R = (k + 1, true) by rw [HI.out, subG_close HX.out]; simp [shiftF]; omega)
          go_wp2_with fail
          go_ret2
          rw [HRR.out]
          exact ⟨by simp; omega, hkept⟩
        · have d93 : (x == 93) = false := by simpa using h93
          have H93 := Lib.hid h93
          clear h93
          have hdl := fun w' (kk : Kept wr w') => ldeclared_any (some ⟨b, o, none⟩) n c l (a + 1 + k) w' ((h.kept hkept).kept kk) hn hlt
          obtain ⟨d, dk, hd⟩ : ∃ d dk, declF (l.drop (a + 1 + k)) = (d, dk) := ⟨_, _, rfl⟩
          have hdle := declF_le (s := l.drop (a + 1 + k)) (by rw [drop_get HX.out]; simp)
          rw [hd] at hdl hdle
          dsimp only at hdl hdle
          rw [List.length_drop, HL.out] at hdle
          have HD := Lib.hid hdl
          have HDD := Lib.hid hd
          clear hdl hd
          go_wp2_with fail
          refine (HD.out _ (Kept.refl _)).mono ?_
          rintro e w1 ⟨rfl, k1⟩
          go_wp2_with fail
          go_roundw
          case rel =>
            refine ⟨k + d, dk, by omega, by go_num, rfl, hkept.trans k1, ?_⟩
            cases dk
            · exact .inr ⟨rfl, by
                rw [HI.out, subG_off HX.out H93.out HDD.out, HL.out]
                simp [shiftF]
                omega⟩
            · exact .inl ⟨rfl, by rw [HI.out, subG_on HX.out H93.out HDD.out, shiftF_shiftF, Nat.add_assoc (a + 1), Nat.add_comm d k]⟩
          case measure =>
            cases dk
            · simp [intOf, okOf]
              omega
            · simp [intOf, okOf]
              omega
      · have hr := FIN.out (.inr (by omega))
        have HRR := Lib.hid hr
        clear hr
        go_wp2_with fail
        go_ret2
        rw [HRR.out]
        exact ⟨by simp; omega, hkept⟩

set_option maxHeartbeats 4000000 in
theorem ldoctypes_any (A : Option Addr) (n c : Nat) (l : List Int) (a : Nat) (w : World) (h : Sl w 1 A n c (l.map (Value.int .i32))) (hn : n ≤ 1000000) (ha : a + 9 ≤ n) :
    Calls Try.prog 65 #[.slice A n c, .int .i64 a] w fun e w' => e = .returned (tkV (dtTk (l.drop a)) a) ∧ Kept w w' := by
  have hcap := h.cap
  have hmax := h.max
  have hl := h.llen1
  have HL := Lib.hid hl
  clear hl
  obtain ⟨R, hR⟩ : ∃ R, dtG (l.drop (a + 9)) = R := ⟨_, rfl⟩
  have hT : dtTk (l.drop a) = ⟨7, R.1 + 9, R.2⟩ := by
    unfold dtTk
    rw [List.drop_drop, hR]
  rw [hT]
  have HR := Lib.hid hR
  clear hR hT
  have hk0 : Kept w (w.alloc (.cells #[.int .i64 0, .int .i64 0, .int .i64 0, .bool false] 54)) := (Kept.refl _).alloc _
  have B0 := Blk.new w #[.int .i64 0, .int .i64 0, .int .i64 0, .bool false] 54
  go_enter Try.func65, Try.ntmps65
  go_wp2_with fail
  generalize w.alloc (.cells #[.int .i64 0, .int .i64 0, .int .i64 0, .bool false] 54) = w1 at hk0 B0 ⊢
  go_loopw [5, 6] (fun b i wr => ∃ (k : Nat) (ok : Bool), a + 9 + k ≤ n ∧ i = .int .i64 ((a + 9 + k : Nat) : Int) ∧ b = .bool ok ∧ Kept w1 wr ∧ Hid ((ok = true ∧ R = shiftF k (dtG (l.drop (a + 9 + k)))) ∨ (ok = false ∧ R = (n - (a + 9), false)))) (fun b i _ => okOf b * (n + 1 - (intOf i).toNat))
  case atStart => exact ⟨0, true, by omega, by go_num, rfl, Kept.refl _, .inl ⟨rfl, HR.out.symm⟩⟩
  case round =>
    obtain ⟨k, ok, hk, rfl, rfl, hkept, hinv⟩ := hrel
    have hkw := hk0.trans hkept
    have B1 := B0.kept hkept
    have fin : ok = false ∨ n ≤ a + 9 + k → R = (n - (a + 9), false) := by
      intro hf
      rcases hinv.out with ⟨rfl, h2⟩ | ⟨_, h2⟩
      · rcases hf with hf | hf
        · cases hf
        · rw [h2, dtG_end (by rw [HL.out]; omega)]
          simp [shiftF]
          omega
      · exact h2
    have FIN := Lib.hid fin
    clear fin
    cases ok
    · have hr := FIN.out (.inl rfl)
      have HRR := Lib.hid hr
      have f9 := B1.cell
      have g9 := B1.frozen
      clear hr
      by_cases hlt : a + 9 + k < n
      · go_wp2_with fail
        refine bodyPost_ret (v := .agg #[.int .i64 7, .int .i64 a, .int .i64 n, .bool false]) ?_ rfl ⟨?_, ?_⟩
        · simp [results, Try.results65, go_sem, f9]
        · rw [HRR.out, show (n : Int) = (a : Int) + ((n - (a + 9) + 9 : Nat) : Int) by omega]
          rfl
        · repeat (first | (with_reducible exact hkw) | (with_reducible refine Kept.setCell ?_ (by simp; try omega) _))
      · go_wp2_with fail
        refine bodyPost_ret (v := .agg #[.int .i64 7, .int .i64 a, .int .i64 n, .bool false]) ?_ rfl ⟨?_, ?_⟩
        · simp [results, Try.results65, go_sem, f9]
        · rw [HRR.out, show (n : Int) = (a : Int) + ((n - (a + 9) + 9 : Nat) : Int) by omega]
          rfl
        · repeat (first | (with_reducible exact hkw) | (with_reducible refine Kept.setCell ?_ (by simp; try omega) _))
    · by_cases hlt : a + 9 + k < n
      · obtain ⟨b, o, x, rfl, hx, hc, hbb⟩ := (h.kept hkw).oneb (k := a + 9 + k) hlt
        have hI : R = shiftF k (dtG (l.drop (a + 9 + k))) := by
          rcases hinv.out with h1 | h1
          · exact h1.2
          · cases h1.1
        have HI := Lib.hid hI
        have HX := Lib.hid hx
        clear hI hx
        by_cases h62 : x = 62
        · subst h62
          have HRR := Lib.hid (show R = (k + 1, true) by rw [HI.out, dtG_gt HX.out]; simp [shiftF]; omega)
          have f9 := B1.cell
          have g9 := B1.frozen
          go_wp2_with fail
          refine bodyPost_ret (v := .agg #[.int .i64 7, .int .i64 a, .int .i64 ((a : Int) + 9 + k + 1), .bool true]) ?_ rfl ⟨?_, ?_⟩
          · simp [results, Try.results65, go_sem, f9]
          · rw [HRR.out, show (a : Int) + 9 + k + 1 = (a : Int) + ((k + 1 + 9 : Nat) : Int) by omega]
            rfl
          · repeat (first | (with_reducible exact hkw) | (with_reducible refine Kept.setCell ?_ (by simp; try omega) _))
        · have d62 : (x == 62) = false := by simpa using h62
          have H62 := Lib.hid h62
          clear h62
          have hqa := fun w' => quote_any x w'
          obtain ⟨q, hq⟩ : ∃ q, isQuote x = q := ⟨_, rfl⟩
          rw [hq] at hqa
          have HQ := Lib.hid hqa
          have HQQ := Lib.hid hq
          clear hqa hq
          go_wp2_with fail
          refine (HQ.out _).mono ?_
          rintro e w2 ⟨rfl, rfl⟩
          cases q
          rotate_left
          · have hqd := fun w' (kk : Kept wr w') => quoted_any (some ⟨b, o, none⟩) n c l (a + 9 + k) x w' ((h.kept hkw).kept kk) hn HX.out
            have hlt2 : ∀ j, closeF x (l.drop (a + 9 + k + 1)) = some j → a + 9 + k + (j + 2) ≤ n := fun j hj => by
              have := closeF_lt hj
              rw [List.length_drop, HL.out] at this
              omega
            obtain ⟨F, hF⟩ : ∃ F, closeF x (l.drop (a + 9 + k + 1)) = F := ⟨_, rfl⟩
            rw [hF] at hqd
            have HD := Lib.hid hqd
            have HF := Lib.hid hF
            have HLT := Lib.hid hlt2
            clear hqd hF hlt2
            cases F with
            | none =>
              simp only [quoR] at HD
              go_wp2_with fail
              refine (HD.out _ (Kept.refl _)).mono ?_
              rintro e w3 ⟨rfl, k3⟩
              go_wp2_with fail
              go_roundw
              case rel =>
                refine ⟨n - (a + 9), false, by omega, by go_num, rfl, hkept.trans k3, .inr ⟨rfl, ?_⟩⟩
                rw [HI.out, dtG_open HX.out HQQ.out HF.out, HL.out]
                simp [shiftF]
                omega
              case measure =>
                simp [intOf, okOf]
                omega
            | some j =>
              simp only [quoR] at HD
              have hjl := HLT.out j HF.out
              go_wp2_with fail
              refine (HD.out _ (Kept.refl _)).mono ?_
              rintro e w3 ⟨rfl, k3⟩
              go_wp2_with fail
              go_roundw
              case rel =>
                refine ⟨k + (j + 2), true, by omega, by go_num, rfl, hkept.trans k3, .inl ⟨rfl, ?_⟩⟩
                rw [HI.out, dtG_quote HX.out HQQ.out HF.out, shiftF_shiftF, Nat.add_assoc (a + 9), Nat.add_comm (j + 2) k]
              case measure =>
                simp [intOf, okOf]
                omega
          · by_cases h91 : x = 91
            · subst h91
              have hsb := fun w' (kk : Kept wr w') => lsubset_any (some ⟨b, o, none⟩) n c l (a + 9 + k) w' ((h.kept hkw).kept kk) hn hlt
              obtain ⟨d, dk, hd⟩ : ∃ d dk, subG (l.drop (a + 9 + k + 1)) = (d, dk) := ⟨_, _, rfl⟩
              obtain ⟨hle1, hle2, hle3⟩ := subG_le (l.drop (a + 9 + k + 1))
              rw [hd] at hsb hle1 hle2 hle3
              dsimp only at hsb hle1 hle2 hle3
              rw [List.length_drop, HL.out] at hle1 hle3
              have HD := Lib.hid hsb
              have HDD := Lib.hid hd
              clear hsb hd hle2
              go_wp2_with fail
              refine (HD.out _ (Kept.refl _)).mono ?_
              rintro e w3 ⟨rfl, k3⟩
              go_wp2_with fail
              go_roundw
              case rel =>
                refine ⟨k + (d + 1), dk, by omega, by go_num, rfl, hkept.trans k3, ?_⟩
                cases dk
                · exact .inr ⟨rfl, by
                    rw [HI.out, dtG_subo HX.out HDD.out, HL.out]
                    simp [shiftF]
                    omega⟩
                · exact .inl ⟨rfl, by rw [HI.out, dtG_sub HX.out HDD.out, shiftF_shiftF, Nat.add_assoc (a + 9), Nat.add_comm (d + 1) k]⟩
              case measure =>
                cases dk
                · simp [intOf, okOf]
                  omega
                · simp [intOf, okOf]
                  omega
            · have d91 : (x == 91) = false := by simpa using h91
              have H91 := Lib.hid h91
              clear h91
              go_wp2_with fail
              go_roundw
              case rel => exact ⟨k + 1, true, by omega, by go_num, rfl, hkept, .inl ⟨rfl, by rw [HI.out, dtG_on HX.out H62.out HQQ.out H91.out, shiftF_shiftF, Nat.add_assoc (a + 9), Nat.add_comm 1 k]⟩⟩
              case measure =>
                simp [intOf, okOf]
                omega
      · have hr := FIN.out (.inr (by omega))
        have HRR := Lib.hid hr
        have f9 := B1.cell
        have g9 := B1.frozen
        clear hr
        go_wp2_with fail
        refine bodyPost_ret (v := .agg #[.int .i64 7, .int .i64 a, .int .i64 n, .bool false]) ?_ rfl ⟨?_, ?_⟩
        · simp [results, Try.results65, go_sem, f9]
        · rw [HRR.out, show (n : Int) = (a : Int) + ((n - (a + 9) + 9 : Nat) : Int) by omega]
          rfl
        · repeat (first | (with_reducible exact hkw) | (with_reducible refine Kept.setCell ?_ (by simp; try omega) _))
end Go.Proofs.Ytennpgdoepdboaa
