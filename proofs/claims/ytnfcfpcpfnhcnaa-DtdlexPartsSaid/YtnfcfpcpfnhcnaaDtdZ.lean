/- Layer 9: the law DtdlexParts, walked. -/
import Derived.Test.YtnfcfpcpfnhcnaaDtdK
import Derived.Test.YtnfcfpcpfnhcnaaDtdY
namespace Go.Proofs.Ytnfcfpcpfnhcnaa
open Go.RowKit
attribute [local go_sem ↓] Go.wp_at_zero Go.wp_at_succ

set_option maxHeartbeats 4000000 in
theorem dtdlexParts_any (A : Option Addr) (n c : Nat) (l : List Int) (f t : Int) (w : World) (h : Sl w 1 A n c (l.map (Value.int .i32))) (hr : Rn l) :
    Calls Try.prog 3 #[.slice A n c, .int .i64 f, .int .i64 t] w fun e w' => e = .returned (.bool true) ∧ Kept w w' := by
  have hF := Lib.hid (dFew_any A n c l w h)
  have HRN := Lib.hid (hr.take 160)
  clear hr
  go_enter Try.func3, Try.ntmps3
  go_wp2_with fail
  refine hF.out.mono ?_
  rintro e w0 ⟨m, rfl, HP, hm, rfl⟩
  have hS := HP _ h
  clear h hF HP
  generalize hl' : l.take 160 = s at hS HRN
  clear hl'
  have HSL := Lib.hid hS.llen1
  have H1 := Lib.hid (fun w' (kk : Kept w w') => dparts_any A m c s f t w' (hS.kept kk) (by omega))
  have H2 := Lib.hid (fun w' (kk : Kept w w') => rparts_any A m c s f t w' (hS.kept kk) (by omega) HRN.out)
  have L1 := Lib.hid (parts_len s f t)
  have HAW := Lib.hid dAwake_any
  go_wp2_with fail
  refine (H1.out _ (Kept.refl w)).mono ?_
  rintro e w1 ⟨A1, m1, c1, hm1, rfl, hS1, k1⟩
  have HM1 := Lib.hid hm1
  clear hm1
  go_wp2_with fail
  refine (H2.out _ k1).mono ?_
  rintro e w2 ⟨A2, m2, c2, hm2, rfl, hS2, k2⟩
  obtain rfl : m2 = m1 := hm2.trans HM1.out.symm
  have hb1 : m2 ≤ 1000 := by have := L1.out; have := HSL.out; have := HM1.out; omega
  have K2 := k1.trans k2
  clear hm2
  go_wp2_with fail
  refine (dsame_any A1 A2 m2 c1 c2 _ w2 (hS1.kept k2) hS2 (by omega)).mono ?_
  rintro e w3 ⟨rfl, k3⟩
  have K3 := K2.trans k3
  go_wp2_with fail
  refine (HAW.out _).mono ?_
  rintro e w4 ⟨rfl, k4⟩
  go_wp2_with fail
  go_ret
  exact ⟨rfl, K3.trans k4⟩
end Go.Proofs.Ytnfcfpcpfnhcnaa
