/- The document's Number (layer 14): walked. -/
import Derived.Test.YtennpgdoepdboaaRefsY
namespace Go.Proofs.Ytennpgdoepdboaa
open Go.RowKit
attribute [local go_sem ↓] Go.wp_at_zero Go.wp_at_succ

set_option maxRecDepth 100000 in
set_option maxHeartbeats 8000000 in
theorem rnumber_any (A : Option Addr) (n c : Nat) (l : List Int) (w : World) (h : Sl w 1 A n c (l.map (Value.int .i32))) (hn : n ≤ 1000000) (h38 : l[0]? = some 38) (hr : Rn l) :
    Calls Try.prog 15 #[.slice A n c] w fun e w' => e = .returned (.int .i32 (numberF l)) ∧ Kept w w' := by
  have hcap := h.cap
  have hmax := h.max
  have hl := h.llen1
  have h1 : 0 < n := by
    have := (List.getElem?_eq_some_iff.1 h38).1
    omega
  obtain ⟨b0, o0, x0, hA, hx0, hc0, hb0⟩ := h.oneb (k := 0) h1
  obtain rfl : x0 = 38 := by rw [h38] at hx0; injection hx0 with hx0; exact hx0.symm
  rw [Nat.add_zero] at hc0
  have hn0 : ((n : Int) == 0) = false := by simp; omega
  have hsh := refT_short l
  have hdig := refT_digits (s := l)
  have hnum : numberF l = if (refT l).1 = 3 ∧ (refT l).2 = n then numR l else -1 := by unfold numberF; rw [hl]
  have hnext := fun w' (hk' : Kept w w') => rnext_any A n c l 0 w' (h.kept hk') hn h1 h38 hr
  unfold tokC at hnext
  rw [List.drop_zero] at hnext
  rw [hl] at hsh hdig
  obtain ⟨tk, tt, hT⟩ : ∃ tk tt, refT l = (tk, tt) := ⟨_, _, rfl⟩
  rw [hT] at hnext hsh hnum hdig
  dsimp only at hnext hsh hnum hdig
  obtain ⟨tb, htb⟩ : ∃ b, (tk != 11) = b := ⟨_, rfl⟩
  have htb2 : tk = 3 → tb = true := by
    intro e
    rw [← htb, e]
    rfl
  have e0 : ((0 : Nat) : Int) + (tt : Int) = (tt : Int) := by omega
  rw [htb, e0] at hnext
  have HNX := Lib.hid hnext
  clear hnext htb hx0
  obtain ⟨NF, hNF⟩ : ∃ z, numberF l = z := ⟨_, rfl⟩
  rw [hNF] at hnum ⊢
  clear hNF
  by_cases hok : tk = 3 ∧ tt = n
  rotate_left
  · have hN : NF = -1 := by rw [hnum, if_neg hok]
    subst hN
    subst hA
    by_cases hk3 : tk = 3
    · have d1 : (tk != 3) = false := by simp [hk3]
      have d2 : ((tt : Int) != n) = true := by
        simp
        intro e
        exact hok ⟨hk3, by omega⟩
      clear hnum hok hk3 htb2 hsh hdig
      go_enter Try.func15, Try.ntmps15
      go_wp2_with fail
      refine (HNX.out _ (Kept.refl _)).mono ?_
      rintro e w1 ⟨rfl, hk1⟩
      go_wp2_with fail
      go_ret
      exact ⟨rfl, hk1.alloc _⟩
    · have d1 : (tk != 3) = true := by simp [hk3]
      clear hnum hok hk3 htb2 hsh hdig
      go_enter Try.func15, Try.ntmps15
      go_wp2_with fail
      refine (HNX.out _ (Kept.refl _)).mono ?_
      rintro e w1 ⟨rfl, hk1⟩
      go_wp2_with fail
      go_ret
      exact ⟨rfl, hk1.alloc _⟩
  · rw [if_pos hok] at hnum
    obtain ⟨rfl, rfl⟩ := hok
    obtain ⟨hs5, hs4⟩ := hsh rfl rfl
    obtain ⟨hdx, hdd⟩ := hdig rfl rfl
    obtain rfl := htb2 rfl
    subst hA
    obtain ⟨b, o, x, he, hx, hc, hb⟩ := h.oneb (k := 2) (by omega)
    injection he with he
    injection he with e1 e2
    subst e1 e2
    have hnum2 : NF = if x = 120 then (if isChar (worthF 16 0 ((l.drop 3).take (tt - 1 - 3))) then worthF 16 0 ((l.drop 3).take (tt - 1 - 3)) else -1) else (if isChar (worthF 10 0 ((l.drop 2).take (tt - 1 - 2))) then worthF 10 0 ((l.drop 2).take (tt - 1 - 2)) else -1) := by
      rw [hnum, show tt - 1 - 3 = tt - 4 by omega, show tt - 1 - 2 = tt - 3 by omega]
      unfold numR
      rw [hx, hl]
      by_cases hxx : x = 120
      · subst hxx
        simp
      · simp [hxx]
    rw [hx] at hs5 hdx hdd
    clear hnum hx hdig
    have wn : IntKind.i64.wrap ((tt : Int) - 1) = ((tt - 1 : Nat) : Int) := by
      rw [IntWalk.i64_in _ (by omega)]
      omega
    by_cases hxx : x = 120
    · subst hxx
      rw [if_pos rfl] at hnum2
      have h5 := hs5 rfl
      have hdg := hdx rfl
      clear hdx hdd
      have hcs := h.cut1 (i := 3) (m := tt - 1) (by omega) (by omega)
      rw [show cutA (some ⟨b0, o0, none⟩) c 3 1 = some ⟨b0, o0 + 3, none⟩ from by unfold cutA; rw [if_neg (by omega)]; rfl] at hcs
      obtain ⟨L2, hL2⟩ : ∃ L2, (l.drop 3).take (tt - 1 - 3) = L2 := ⟨_, rfl⟩
      rw [hL2] at hcs hnum2 hdg
      have HD := Lib.hid hdg
      have HN := Lib.hid hnum2
      have HR2 : Hid (Rn L2) := by
        unfold Hid
        rw [← hL2]
        exact (hr.drop _).take _
      have q1 : (3 : Int) ≤ ((tt - 1 : Nat) : Int) := by omega
      have q2 : ((tt - 1 : Nat) : Int) ≤ c := by omega
      have q3 : (0 : Int) ≤ ((tt - 1 : Nat) : Int) := by omega
      clear hL2 hnum2 hdg hs5
      go_enter Try.func15, Try.ntmps15
      go_wp2_with fail
      refine (HNX.out _ (Kept.refl _)).mono ?_
      rintro e w1 ⟨rfl, hk1⟩
      have hc1 := hk1.cell hc
      have hb1 := hk1.size
      have hca := fun ob => ((Kept.refl w1).alloc ob).cell hc1
      have hcs1 := (hcs.kept hk1).kept ((Kept.refl w1).alloc (.cells #[.int .i64 3, .int .i64 0, .int .i64 tt, .bool true] 49))
      have hkA := hk1.alloc (.cells #[.int .i64 3, .int .i64 0, .int .i64 tt, .bool true] 49)
      have hl2 := hcs1.llen1
      have hcap2 := hcs1.cap
      have hmax2 := hcs1.max
      have HL2 := Lib.hid hl2
      obtain ⟨m, hm⟩ : ∃ m, tt - 1 - 3 = m := ⟨_, rfl⟩
      rw [hm] at hcs1 hcap2 HL2 hl2
      go_wp2_with fail
      go_loopw [6, 41] (fun s6 u wr => ∃ (k : Nat) (V : Int), k ≤ m ∧ u = .int .i64 k ∧ s6 = .int .i64 V ∧ 0 ≤ V ∧ V ≤ 1114111 ∧ Kept (w1.alloc (.cells #[.int .i64 3, .int .i64 0, .int .i64 tt, .bool true] 49)) wr ∧ Hid (worthF 16 0 L2 = worthF 16 V (L2.drop k))) (fun _ u _ => m - (intOf u).toNat)
      case atStart => exact ⟨0, 0, Nat.zero_le _, rfl, rfl, by omega, by omega, Kept.refl _, rfl⟩
      case round =>
        obtain ⟨k, V, hkm, rfl, rfl, hV0, hV1, hk, hinv⟩ := hrel
        by_cases hp : k < m
        · obtain ⟨b', o', y, he, hy, hcy, hby⟩ := (hcs1.kept hk).oneb (k := k) hp
          injection he with he
          injection he with e1 e2
          subst e1 e2
          have hyr := HR2.out y (List.mem_of_getElem? hy)
          have hyd := rdig_hex (HD.out y (List.mem_of_getElem? hy))
          have HST := Lib.hid (worth_step (base := 16) (v := V) hy)
          have hbd := hexV_bd y
          obtain ⟨d, hd⟩ : ∃ d, hexV y = d := ⟨_, rfl⟩
          rw [hd] at hyd hbd HST
          have l0 : (0 : Int) ≤ k := by omega
          have l1 : (k : Int) < m := by omega
          have wm : IntKind.i64.wrap (V * 16) = V * 16 := IntWalk.i64_in _ (by omega)
          have ws : IntKind.i64.wrap (V * 16 + d) = V * 16 + d := IntWalk.i64_in _ (by omega)
          have hdig := fun w' => rdig_any y 16 hyr.1 hyr.2 w'
          rw [hyd] at hdig
          have HDG := Lib.hid hdig
          clear hy hd hyd hdig
          by_cases hbig : 1114111 < V * 16 + d
          · have d1 : decide ((1114111 : Int) < V * 16 + d) = true := by simpa using hbig
            have hNF : NF = -1 := by
              rw [HN.out, hinv.out, HST.out, worth_top 16 (by omega) _ _ (by omega), isChar_top]
              rfl
            subst hNF
            go_wp2_with fail
            refine (HDG.out _).mono ?_
            rintro e wd ⟨rfl, rfl⟩
            go_wp2_with fail
            go_ret
            exact ⟨rfl, hkA.trans hk⟩
          · have d1 : decide ((1114111 : Int) < V * 16 + d) = false := by simp; omega
            have hmin : min (V * 16 + d) 1114112 = V * 16 + d := by omega
            rw [hmin] at HST
            go_wp2_with fail
            refine (HDG.out _).mono ?_
            rintro e wd ⟨rfl, rfl⟩
            go_wp2_with fail
            go_roundw
            case rel => exact ⟨k + 1, V * 16 + d, hp, by simp, rfl, by omega, by omega, hk, by unfold Hid; rw [hinv.out, HST.out]⟩
            case measure =>
              simp [intOf]
              omega
        · have d1 : decide ((k : Int) < m) = false := by simp; omega
          have hfin : worthF 16 0 L2 = V := by
            rw [hinv.out, List.drop_eq_nil_of_le (by have := HL2.out; omega)]
            rfl
          have w32 : IntKind.i32.wrap V = V := IntWalk.i32_in _ (by omega)
          obtain ⟨B, hB⟩ : ∃ z, isChar V = z := ⟨_, rfl⟩
          have hNF : NF = if B = true then V else -1 := by rw [HN.out, hfin, hB]
          clear hfin
          cases B
          · have hN0 : NF = -1 := by rw [hNF]; rfl
            clear hNF
            subst hN0
            go_wp2_with fail
            refine (rchar_any _ _).mono ?_
            rintro e wd ⟨rfl, rfl⟩
            rw [hB]
            go_wp2_with fail
            go_ret
            exact ⟨rfl, hkA.trans hk⟩
          · have hN0 : NF = V := by rw [hNF]; rfl
            clear hNF HN
            subst hN0
            go_wp2_with fail
            refine (rchar_any _ _).mono ?_
            rintro e wd ⟨rfl, rfl⟩
            rw [hB]
            go_wp2_with fail
            go_ret
            exact ⟨rfl, hkA.trans hk⟩
    · rw [if_neg hxx] at hnum2
      have dx : (x == 120) = false := by simpa using hxx
      have hdg := hdd (by simpa using hxx)
      clear hdx hdd hxx
      have hcs := h.cut1 (i := 2) (m := tt - 1) (by omega) (by omega)
      rw [show cutA (some ⟨b0, o0, none⟩) c 2 1 = some ⟨b0, o0 + 2, none⟩ from by unfold cutA; rw [if_neg (by omega)]; rfl] at hcs
      obtain ⟨L2, hL2⟩ : ∃ L2, (l.drop 2).take (tt - 1 - 2) = L2 := ⟨_, rfl⟩
      rw [hL2] at hcs hnum2 hdg
      have HD := Lib.hid hdg
      have HN := Lib.hid hnum2
      have HR2 : Hid (Rn L2) := by
        unfold Hid
        rw [← hL2]
        exact (hr.drop _).take _
      have q1 : (2 : Int) ≤ ((tt - 1 : Nat) : Int) := by omega
      have q2 : ((tt - 1 : Nat) : Int) ≤ c := by omega
      have q3 : (0 : Int) ≤ ((tt - 1 : Nat) : Int) := by omega
      clear hL2 hnum2 hdg hs5
      go_enter Try.func15, Try.ntmps15
      go_wp2_with fail
      refine (HNX.out _ (Kept.refl _)).mono ?_
      rintro e w1 ⟨rfl, hk1⟩
      have hc1 := hk1.cell hc
      have hb1 := hk1.size
      have hca := fun ob => ((Kept.refl w1).alloc ob).cell hc1
      have hcs1 := (hcs.kept hk1).kept ((Kept.refl w1).alloc (.cells #[.int .i64 3, .int .i64 0, .int .i64 tt, .bool true] 49))
      have hkA := hk1.alloc (.cells #[.int .i64 3, .int .i64 0, .int .i64 tt, .bool true] 49)
      have hl2 := hcs1.llen1
      have hcap2 := hcs1.cap
      have hmax2 := hcs1.max
      have HL2 := Lib.hid hl2
      obtain ⟨m, hm⟩ : ∃ m, tt - 1 - 2 = m := ⟨_, rfl⟩
      rw [hm] at hcs1 hcap2 HL2 hl2
      go_wp2_with fail
      go_loopw [6, 41] (fun s6 u wr => ∃ (k : Nat) (V : Int), k ≤ m ∧ u = .int .i64 k ∧ s6 = .int .i64 V ∧ 0 ≤ V ∧ V ≤ 1114111 ∧ Kept (w1.alloc (.cells #[.int .i64 3, .int .i64 0, .int .i64 tt, .bool true] 49)) wr ∧ Hid (worthF 10 0 L2 = worthF 10 V (L2.drop k))) (fun _ u _ => m - (intOf u).toNat)
      case atStart => exact ⟨0, 0, Nat.zero_le _, rfl, rfl, by omega, by omega, Kept.refl _, rfl⟩
      case round =>
        obtain ⟨k, V, hkm, rfl, rfl, hV0, hV1, hk, hinv⟩ := hrel
        by_cases hp : k < m
        · obtain ⟨b', o', y, he, hy, hcy, hby⟩ := (hcs1.kept hk).oneb (k := k) hp
          injection he with he
          injection he with e1 e2
          subst e1 e2
          have hyr := HR2.out y (List.mem_of_getElem? hy)
          have hyd := rdig_dig (HD.out y (List.mem_of_getElem? hy))
          have HST := Lib.hid (worth_step (base := 10) (v := V) hy)
          have hbd := hexV_bd y
          obtain ⟨d, hd⟩ : ∃ d, hexV y = d := ⟨_, rfl⟩
          rw [hd] at hyd hbd HST
          have l0 : (0 : Int) ≤ k := by omega
          have l1 : (k : Int) < m := by omega
          have wm : IntKind.i64.wrap (V * 10) = V * 10 := IntWalk.i64_in _ (by omega)
          have ws : IntKind.i64.wrap (V * 10 + d) = V * 10 + d := IntWalk.i64_in _ (by omega)
          have hdig := fun w' => rdig_any y 10 hyr.1 hyr.2 w'
          rw [hyd] at hdig
          have HDG := Lib.hid hdig
          clear hy hd hyd hdig
          by_cases hbig : 1114111 < V * 10 + d
          · have d1 : decide ((1114111 : Int) < V * 10 + d) = true := by simpa using hbig
            have hNF : NF = -1 := by
              rw [HN.out, hinv.out, HST.out, worth_top 10 (by omega) _ _ (by omega), isChar_top]
              rfl
            subst hNF
            go_wp2_with fail
            refine (HDG.out _).mono ?_
            rintro e wd ⟨rfl, rfl⟩
            go_wp2_with fail
            go_ret
            exact ⟨rfl, hkA.trans hk⟩
          · have d1 : decide ((1114111 : Int) < V * 10 + d) = false := by simp; omega
            have hmin : min (V * 10 + d) 1114112 = V * 10 + d := by omega
            rw [hmin] at HST
            go_wp2_with fail
            refine (HDG.out _).mono ?_
            rintro e wd ⟨rfl, rfl⟩
            go_wp2_with fail
            go_roundw
            case rel => exact ⟨k + 1, V * 10 + d, hp, by simp, rfl, by omega, by omega, hk, by unfold Hid; rw [hinv.out, HST.out]⟩
            case measure =>
              simp [intOf]
              omega
        · have d1 : decide ((k : Int) < m) = false := by simp; omega
          have hfin : worthF 10 0 L2 = V := by
            rw [hinv.out, List.drop_eq_nil_of_le (by have := HL2.out; omega)]
            rfl
          have w32 : IntKind.i32.wrap V = V := IntWalk.i32_in _ (by omega)
          obtain ⟨B, hB⟩ : ∃ z, isChar V = z := ⟨_, rfl⟩
          have hNF : NF = if B = true then V else -1 := by rw [HN.out, hfin, hB]
          clear hfin
          cases B
          · have hN0 : NF = -1 := by rw [hNF]; rfl
            clear hNF
            subst hN0
            go_wp2_with fail
            refine (rchar_any _ _).mono ?_
            rintro e wd ⟨rfl, rfl⟩
            rw [hB]
            go_wp2_with fail
            go_ret
            exact ⟨rfl, hkA.trans hk⟩
          · have hN0 : NF = V := by rw [hNF]; rfl
            clear hNF HN
            subst hN0
            go_wp2_with fail
            refine (rchar_any _ _).mono ?_
            rintro e wd ⟨rfl, rfl⟩
            rw [hB]
            go_wp2_with fail
            go_ret
            exact ⟨rfl, hkA.trans hk⟩
end Go.Proofs.Ytennpgdoepdboaa
