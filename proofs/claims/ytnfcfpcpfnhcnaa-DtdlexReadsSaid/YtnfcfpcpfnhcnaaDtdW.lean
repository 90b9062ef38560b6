/- Layer 9: the law DtdlexItems, walked. -/
import Derived.Test.YtnfcfpcpfnhcnaaDtdK
import Derived.Test.YtnfcfpcpfnhcnaaDtdV
namespace Go.Proofs.Ytnfcfpcpfnhcnaa
open Go.RowKit
attribute [local go_sem ↓] Go.wp_at_zero Go.wp_at_succ

theorem row_len {step : List Int → Int × Nat} (hb : ∀ s, s ≠ [] → 1 ≤ (step s).2 ∧ (step s).2 ≤ s.length) (l : List Int) (f t : Int) : (rowL step l f t).length ≤ l.length := by
  unfold rowL
  split
  · exact Nat.zero_le _
  · have h1 := chainX_len hb _ f ((l.take t.toNat).drop f.toNat) (Nat.le_refl _)
    rw [List.length_drop, List.length_take] at h1
    omega
set_option maxHeartbeats 4000000 in
theorem dtdlexItems_any (A : Option Addr) (n c : Nat) (l : List Int) (f t : Int) (w : World) (h : Sl w 1 A n c (l.map (Value.int .i32))) (hr : Rn l) :
    Calls Try.prog 4 #[.slice A n c, .int .i64 f, .int .i64 t] w fun e w' => e = .returned (.bool true) ∧ Kept w w' := by
  have hF := Lib.hid (dFew_any A n c l w h)
  have HRN := Lib.hid (hr.take 160)
  clear hr
  go_enter Try.func4, Try.ntmps4
  go_wp2_with fail
  refine hF.out.mono ?_
  rintro e w0 ⟨m, rfl, HP, hm, rfl⟩
  have hS := HP _ h
  clear h hF HP
  generalize hl' : l.take 160 = s at hS HRN
  clear hl'
  have HSL := Lib.hid hS.llen1
  have H1 := Lib.hid (fun w' (kk : Kept w w') => ditems_any A m c s f t w' (hS.kept kk) (by omega))
  have H2 := Lib.hid (fun w' (kk : Kept w w') => ritems_any A m c s f t w' (hS.kept kk) (by omega) HRN.out)
  have H3 := Lib.hid (fun w' (kk : Kept w w') => dwords_any A m c s f t w' (hS.kept kk) (by omega))
  have H4 := Lib.hid (fun w' (kk : Kept w w') => rwords_any A m c s f t w' (hS.kept kk) (by omega) HRN.out)
  have L1 := Lib.hid (row_len itemF_bd s f t)
  have L2 := Lib.hid (row_len wordF_bd s f t)
  have HAW := Lib.hid dAwake_any
  go_wp2_with fail
  refine (H1.out _ (Kept.refl w)).mono ?_
  rintro e w1 ⟨A1, m1, c1, hm1, rfl, hS1, k1⟩
  have HM1 := Lib.hid hm1
  clear hm1
  go_wp2_with fail
  refine (H2.out _ k1).mono ?_
  rintro e w2 ⟨A2, m2, c2, hm2, rfl, hS2, k2⟩
  obtain rfl : m2 = m1 := hm2.trans HM1.out.symm
  have hb1 : m2 ≤ 1000 := by have := L1.out; have := HSL.out; omega
  have K2 := k1.trans k2
  clear hm2
  go_wp2_with fail
  refine (dsame_any A1 A2 m2 c1 c2 _ w2 (hS1.kept k2) hS2 (by omega)).mono ?_
  rintro e w3 ⟨rfl, k3⟩
  have K3 := K2.trans k3
  go_wp2_with fail
  refine (H3.out _ K3).mono ?_
  rintro e w4 ⟨A4, m4, c4, hm4, rfl, hS4, k4⟩
  have HM4 := Lib.hid hm4
  clear hm4
  have K4 := K3.trans k4
  go_wp2_with fail
  refine (H4.out _ K4).mono ?_
  rintro e w5 ⟨A5, m5, c5, hm5, rfl, hS5, k5⟩
  obtain rfl : m5 = m4 := hm5.trans HM4.out.symm
  have hb5 : m5 ≤ 1000 := by have := L2.out; have := HSL.out; omega
  have K5 := K4.trans k5
  clear hm5
  go_wp2_with fail
  refine (dsame_any A4 A5 m5 c4 c5 _ w5 (hS4.kept k5) hS5 (by omega)).mono ?_
  rintro e w6 ⟨rfl, k6⟩
  have K6 := K5.trans k6
  go_wp2_with fail
  refine (HAW.out _).mono ?_
  rintro e w7 ⟨rfl, k7⟩
  go_wp2_with fail
  go_ret
  exact ⟨rfl, K6.trans k7⟩
end Go.Proofs.Ytnfcfpcpfnhcnaa
