/- Layer 9: the law DtdlexReads, walked. Printed by gen_dtdo.py. -/
import Derived.Test.YtnfcfpcpfnhcnaaDtdK
import Derived.Test.YtnfcfpcpfnhcnaaDtdV
import Derived.Test.YtnfcfpcpfnhcnaaDtdN
namespace Go.Proofs.Ytnfcfpcpfnhcnaa
open Go.RowKit
attribute [local go_sem ↓] Go.wp_at_zero Go.wp_at_succ

set_option maxHeartbeats 4000000 in
theorem dtdlexReads_any (A : Option Addr) (n c : Nat) (l : List Int) (f t : Int) (w : World) (h : Sl w 1 A n c (l.map (Value.int .i32))) (hr : Rn l) :
    Calls Try.prog 5 #[.slice A n c, .int .i64 f, .int .i64 t] w fun e w' => e = .returned (.bool true) ∧ Kept w w' := by
  have hF := Lib.hid (dFew_any A n c l w h)
  have HRN := Lib.hid (hr.take 160)
  clear hr
  go_enter Try.func5, Try.ntmps5
  go_wp2_with fail
  refine hF.out.mono ?_
  rintro e w0 ⟨m, rfl, HP, hm, rfl⟩
  have hS := HP _ h
  clear h hF HP
  generalize hl' : l.take 160 = s at hS HRN
  clear hl'
  have hsl : s.length = m := hS.llen1
  have hok : PartsOk m (partL s f t) := by
    have := parts_ok s f t
    rw [hsl] at this
    exact this
  have hpl : (partL s f t).length ≤ 1000000 := by
    have := parts_len s f t
    omega
  have heq : readF s (partL s f t) = docF s (partL s f t) := docF_eq (parts_ok s f t)
  have H1 := Lib.hid (fun w' (kk : Kept w w') => dread_any A m c s f t w' (hS.kept kk) (by omega) hok hpl)
  have H2 := Lib.hid (fun w' (kk : Kept w w') => rread_any A m c s f t w' (hS.kept kk) (by omega) HRN.out hok)
  rw [heq] at H1
  generalize docF s (partL s f t) = V at H1 H2
  obtain ⟨nm, pb, sy, sb, ok⟩ := V
  simp only [Hd.val, hdA] at H1 H2
  have HAW := Lib.hid dAwake_any
  clear hsl hok hpl heq HRN
  go_wp2_with fail
  refine (H1.out _ (Kept.refl w)).mono ?_
  rintro e w1 ⟨rfl, k1⟩
  go_wp2_with fail
  refine (H2.out _ k1).mono ?_
  rintro e w2 ⟨rfl, k2⟩
  have K2 := k1.trans k2
  clear H1 H2 k1 k2 hS
  go_upto_region 3 with fail
  refine wp_named ?_
  intro w3 hw3
  obtain ⟨ga, hga⟩ : ∃ g, w2.heap.size = g := ⟨_, rfl⟩
  obtain ⟨gb, hgb⟩ : ∃ g, w2.heap.size + 1 = g := ⟨_, rfl⟩
  have K3 : Kept w w3 := by
    rw [hw3]
    exact (K2.alloc _).alloc _
  have BA3 : Blk w3 ga (hdA nm pb sy sb ok) 34 := by
    rw [hw3, ← hga]
    exact (Blk.new w2 (hdA nm pb sy sb ok) 34).alloc _
  have BB3 : Blk w3 gb (hdA nm pb sy sb ok) 38 := by
    have hb := Blk.new (w2.alloc (.cells (hdA nm pb sy sb ok) 34)) (hdA nm pb sy sb ok) 38
    rw [World.size_alloc] at hb
    rw [hw3, ← hgb]
    exact hb
  rw [hgb, hga]
  clear hw3 hga hgb K2
  have a0 : w3.cell? ⟨ga, 12, none⟩ = some (.bool ok) := BA3.cell 12
  have b0 : w3.cell? ⟨gb, 12, none⟩ = some (.bool ok) := BB3.cell 12
  have x00 : w3.cell? ⟨ga, 0, none⟩ = some (.int .i64 nm.k) := BA3.cell 0
  have y00 : w3.cell? ⟨gb, 0, none⟩ = some (.int .i64 nm.k) := BB3.cell 0
  have x01 : w3.cell? ⟨ga, 1, none⟩ = some (.int .i64 nm.f) := BA3.cell 1
  have y01 : w3.cell? ⟨gb, 1, none⟩ = some (.int .i64 nm.f) := BB3.cell 1
  have x02 : w3.cell? ⟨ga, 2, none⟩ = some (.int .i64 nm.t) := BA3.cell 2
  have y02 : w3.cell? ⟨gb, 2, none⟩ = some (.int .i64 nm.t) := BB3.cell 2
  go_wp2_with fail
  refine (dlike_any nm w3).mono ?_
  rintro e w4 ⟨rfl, kk⟩
  have K4 := K3.trans kk
  have BA4 := BA3.kept kk
  have BB4 := BB3.kept kk
  clear kk x00 y00 x01 y01 x02 y02
  have x10 : w4.cell? ⟨ga, 3, none⟩ = some (.int .i64 pb.k) := BA4.cell 3
  have y10 : w4.cell? ⟨gb, 3, none⟩ = some (.int .i64 pb.k) := BB4.cell 3
  have x11 : w4.cell? ⟨ga, 4, none⟩ = some (.int .i64 pb.f) := BA4.cell 4
  have y11 : w4.cell? ⟨gb, 4, none⟩ = some (.int .i64 pb.f) := BB4.cell 4
  have x12 : w4.cell? ⟨ga, 5, none⟩ = some (.int .i64 pb.t) := BA4.cell 5
  have y12 : w4.cell? ⟨gb, 5, none⟩ = some (.int .i64 pb.t) := BB4.cell 5
  go_wp2_with fail
  refine (dlike_any pb w4).mono ?_
  rintro e w5 ⟨rfl, kk⟩
  have K5 := K4.trans kk
  have BA5 := BA4.kept kk
  have BB5 := BB4.kept kk
  clear kk x10 y10 x11 y11 x12 y12
  have x20 : w5.cell? ⟨ga, 6, none⟩ = some (.int .i64 sy.k) := BA5.cell 6
  have y20 : w5.cell? ⟨gb, 6, none⟩ = some (.int .i64 sy.k) := BB5.cell 6
  have x21 : w5.cell? ⟨ga, 7, none⟩ = some (.int .i64 sy.f) := BA5.cell 7
  have y21 : w5.cell? ⟨gb, 7, none⟩ = some (.int .i64 sy.f) := BB5.cell 7
  have x22 : w5.cell? ⟨ga, 8, none⟩ = some (.int .i64 sy.t) := BA5.cell 8
  have y22 : w5.cell? ⟨gb, 8, none⟩ = some (.int .i64 sy.t) := BB5.cell 8
  go_wp2_with fail
  refine (dlike_any sy w5).mono ?_
  rintro e w6 ⟨rfl, kk⟩
  have K6 := K5.trans kk
  have BA6 := BA5.kept kk
  have BB6 := BB5.kept kk
  clear kk x20 y20 x21 y21 x22 y22
  have x30 : w6.cell? ⟨ga, 9, none⟩ = some (.int .i64 sb.k) := BA6.cell 9
  have y30 : w6.cell? ⟨gb, 9, none⟩ = some (.int .i64 sb.k) := BB6.cell 9
  have x31 : w6.cell? ⟨ga, 10, none⟩ = some (.int .i64 sb.f) := BA6.cell 10
  have y31 : w6.cell? ⟨gb, 10, none⟩ = some (.int .i64 sb.f) := BB6.cell 10
  have x32 : w6.cell? ⟨ga, 11, none⟩ = some (.int .i64 sb.t) := BA6.cell 11
  have y32 : w6.cell? ⟨gb, 11, none⟩ = some (.int .i64 sb.t) := BB6.cell 11
  go_wp2_with fail
  refine (dlike_any sb w6).mono ?_
  rintro e w7 ⟨rfl, kk⟩
  have K7 := K6.trans kk
  have BA7 := BA6.kept kk
  have BB7 := BB6.kept kk
  clear kk x30 y30 x31 y31 x32 y32
  go_wp2_with fail
  refine (HAW.out _).mono ?_
  rintro e w8 ⟨rfl, kk⟩
  go_wp2_with fail
  go_ret
  exact ⟨rfl, K7.trans kk⟩
end Go.Proofs.Ytnfcfpcpfnhcnaa
