/- The document's Value walked (printed by wip/gen/gen_conag.py). -/
import Derived.Test.YtmicmmbdkmmnoaaConAf
namespace Go.Proofs.Ytmicmmbdkmmnoaa
open Go.RowKit
attribute [local go_sem ↓] Go.wp_at_zero Go.wp_at_succ

set_option maxHeartbeats 4000000 in
theorem rvalue_short (w : World) (ci cd cq ce cl : Int) (ct cr : Bool) (A : Option Addr) (n c : Nat) (l : List Int) (h : Sl w 1 A n c (l.map (Value.int .i32))) (hn : n ≤ 60) (h2 : n < 2) :
    Calls Try.prog 22 #[.agg #[.int .i64 ci, .int .i64 cd, .int .i64 cq, .int .i64 ce, .int .i64 cl, .bool ct, .bool cr], .slice A n c] w fun e w' => RunesOf l w e w' := by
  have HLL := Lib.hid h.llen1
  have l1 : (n : Int) < 2 := by omega
  have hc := fun w => rclamp_any ⟨ci, cd, cq, ce, cl, ct, cr⟩ w
  obtain ⟨c', hc'⟩ : ∃ c', clampF ⟨ci, cd, cq, ce, cl, ct, cr⟩ = c' := ⟨_, rfl⟩
  rw [hc'] at hc
  clear hc'
  obtain ⟨di, dd, dq, de, dl, dt, dr⟩ := c'
  have HC := Lib.hid hc
  unfold Cf.val at HC
  dsimp only at HC
  clear hc
  have K0 := (Kept.refl w).alloc (.cells #[.int .i64 ci, .int .i64 cd, .int .i64 cq, .int .i64 ce, .int .i64 cl, .bool ct, .bool cr] 27)
  have hfd : ∀ w : World, (Instr.field 27 (.agg #[.int .i64 di, .int .i64 dd, .int .i64 dq, .int .i64 de, .int .i64 dl, .bool dt, .bool dr]) 2).run Try.prog w = .ok (.int .i64 dq) w := fun _ => by kernel_rfl
  go_enter Try.func22, Try.ntmps22
  go_wp2_with fail
  refine (HC.out _).mono ?_
  rintro e w1 ⟨rfl, k1⟩
  have K1 := K0.trans k1
  clear HC K0 k1
  go_upto_region 2 with fail
  have k2 : Kept w1 w1.drew := (Kept.refl w1).drew
  have K2 := K1.trans k2
  go_region
  go_wp2_with fail
  go_ret
  exact ⟨_, c, by rw [HLL.out]; rfl, by rw [HLL.out]; exact h.kept K2, K2⟩

set_option maxHeartbeats 4000000 in
theorem rvalue_ends (w : World) (ci cd cq ce cl : Int) (ct cr : Bool) (A : Option Addr) (n c : Nat) (l : List Int) (h : Sl w 1 A n c (l.map (Value.int .i32))) (hn : n ≤ 60) (h2 : 2 ≤ n) (hxy : l[0]? ≠ l[n - 1]?) :
    Calls Try.prog 22 #[.agg #[.int .i64 ci, .int .i64 cd, .int .i64 cq, .int .i64 ce, .int .i64 cl, .bool ct, .bool cr], .slice A n c] w fun e w' => RunesOf l w e w' := by
  have HLL := Lib.hid h.llen1
  obtain ⟨m, hm⟩ : ∃ m, n - 1 = m := ⟨_, rfl⟩
  obtain ⟨b, o, x, y, hA, hx, hy, cx, cy⟩ := two_ends h h2
  rw [hx, hy] at hxy
  have xne : ¬ x = y := fun e => hxy (by rw [e])
  have xy : (x != y) = true := by simpa using xne
  clear hxy hx hy
  rw [hm] at cy
  have hm1 : IntKind.i64.wrap ((n : Int) - 1) = (m : Int) := by
    rw [show (n : Int) - 1 = (m : Int) by omega]
    exact IntWalk.i64_in _ (by omega)
  have l1 : ¬ (n : Int) < 2 := by omega
  have l2 : (m : Int) < n := by omega
  have l3 : (0 : Int) ≤ m := by omega
  have l4 : 0 < n := by omega
  have l5 : m < n := by omega
  subst hA
  have hc := fun w => rclamp_any ⟨ci, cd, cq, ce, cl, ct, cr⟩ w
  obtain ⟨c', hc'⟩ : ∃ c', clampF ⟨ci, cd, cq, ce, cl, ct, cr⟩ = c' := ⟨_, rfl⟩
  rw [hc'] at hc
  clear hc'
  obtain ⟨di, dd, dq, de, dl, dt, dr⟩ := c'
  have HC := Lib.hid hc
  unfold Cf.val at HC
  dsimp only at HC
  clear hc
  have K0 := (Kept.refl w).alloc (.cells #[.int .i64 ci, .int .i64 cd, .int .i64 cq, .int .i64 ce, .int .i64 cl, .bool ct, .bool cr] 27)
  have hfd : ∀ w : World, (Instr.field 27 (.agg #[.int .i64 di, .int .i64 dd, .int .i64 dq, .int .i64 de, .int .i64 dl, .bool dt, .bool dr]) 2).run Try.prog w = .ok (.int .i64 dq) w := fun _ => by kernel_rfl
  go_enter Try.func22, Try.ntmps22
  go_wp2_with fail
  refine (HC.out _).mono ?_
  rintro e w1 ⟨rfl, k1⟩
  have K1 := K0.trans k1
  clear HC K0 k1
  go_upto_region 2 with fail
  have k2 : Kept w1 w1.drew := (Kept.refl w1).drew
  have K2 := K1.trans k2
  have qx := K1.cell cx
  have qy := K1.cell cy
  clear cx cy
  have d1 : decide ((n : Int) < 2) = false := by simpa using l1
  go_region
  go_wp2_with fail
  go_ret
  exact ⟨_, c, by rw [HLL.out]; rfl, by rw [HLL.out]; exact h.kept K2, K2⟩

set_option maxHeartbeats 4000000 in
theorem rvalue_none (w : World) (ci cd cq ce cl : Int) (ct cr : Bool) (A : Option Addr) (n c : Nat) (l : List Int) (h : Sl w 1 A n c (l.map (Value.int .i32))) (hn : n ≤ 60) (h2 : 2 ≤ n) (x : Int) (hx : l[0]? = some x) (hy : l[n - 1]? = some x) (x34 : x ≠ 34) (x39 : x ≠ 39) :
    Calls Try.prog 22 #[.agg #[.int .i64 ci, .int .i64 cd, .int .i64 cq, .int .i64 ce, .int .i64 cl, .bool ct, .bool cr], .slice A n c] w fun e w' => RunesOf l w e w' := by
  have HLL := Lib.hid h.llen1
  obtain ⟨m, hm⟩ : ∃ m, n - 1 = m := ⟨_, rfl⟩
  obtain ⟨b, o, x', y, hA, hx', hy', cx, cy⟩ := two_ends h h2
  rw [hx] at hx'
  rw [hy] at hy'
  obtain rfl := Option.some.inj hx'
  obtain rfl := Option.some.inj hy'
  have n34 : ¬ x = 34 := x34
  have n39 : ¬ x = 39 := x39
  clear x34 x39 hx hy hx' hy'
  rw [hm] at cy
  have hm1 : IntKind.i64.wrap ((n : Int) - 1) = (m : Int) := by
    rw [show (n : Int) - 1 = (m : Int) by omega]
    exact IntWalk.i64_in _ (by omega)
  have l1 : ¬ (n : Int) < 2 := by omega
  have l2 : (m : Int) < n := by omega
  have l3 : (0 : Int) ≤ m := by omega
  have l4 : 0 < n := by omega
  have l5 : m < n := by omega
  subst hA
  have hc := fun w => rclamp_any ⟨ci, cd, cq, ce, cl, ct, cr⟩ w
  obtain ⟨c', hc'⟩ : ∃ c', clampF ⟨ci, cd, cq, ce, cl, ct, cr⟩ = c' := ⟨_, rfl⟩
  rw [hc'] at hc
  clear hc'
  obtain ⟨di, dd, dq, de, dl, dt, dr⟩ := c'
  have HC := Lib.hid hc
  unfold Cf.val at HC
  dsimp only at HC
  clear hc
  have K0 := (Kept.refl w).alloc (.cells #[.int .i64 ci, .int .i64 cd, .int .i64 cq, .int .i64 ce, .int .i64 cl, .bool ct, .bool cr] 27)
  have hfd : ∀ w : World, (Instr.field 27 (.agg #[.int .i64 di, .int .i64 dd, .int .i64 dq, .int .i64 de, .int .i64 dl, .bool dt, .bool dr]) 2).run Try.prog w = .ok (.int .i64 dq) w := fun _ => by kernel_rfl
  go_enter Try.func22, Try.ntmps22
  go_wp2_with fail
  refine (HC.out _).mono ?_
  rintro e w1 ⟨rfl, k1⟩
  have K1 := K0.trans k1
  clear HC K0 k1
  go_upto_region 2 with fail
  have k2 : Kept w1 w1.drew := (Kept.refl w1).drew
  have K2 := K1.trans k2
  have qx := K1.cell cx
  have qy := K1.cell cy
  clear cx cy
  have d1 : decide ((n : Int) < 2) = false := by simpa using l1
  have b34 : (x != 34) = true := by simpa using n34
  have b39 : (x != 39) = true := by simpa using n39
  clear n34 n39
  go_region
  go_wp2_with fail
  go_ret
  exact ⟨_, c, by rw [HLL.out]; rfl, by rw [HLL.out]; exact h.kept K2, K2⟩

set_option maxHeartbeats 4000000 in
theorem rvalue_keep034 (w : World) (ci cd cq ce cl : Int) (ct cr : Bool) (A : Option Addr) (n c : Nat) (l : List Int) (h : Sl w 1 A n c (l.map (Value.int .i32))) (hn : n ≤ 60) (h2 : 2 ≤ n) (hx : l[0]? = some 34) (hy : l[n - 1]? = some 34) (hq : (clampF ⟨ci, cd, cq, ce, cl, ct, cr⟩).q = 0) :
    Calls Try.prog 22 #[.agg #[.int .i64 ci, .int .i64 cd, .int .i64 cq, .int .i64 ce, .int .i64 cl, .bool ct, .bool cr], .slice A n c] w fun e w' => RunesOf l w e w' := by
  have HLL := Lib.hid h.llen1
  obtain ⟨m, hm⟩ : ∃ m, n - 1 = m := ⟨_, rfl⟩
  obtain ⟨b, o, x', y, hA, hx', hy', cx, cy⟩ := two_ends h h2
  rw [hx] at hx'
  rw [hy] at hy'
  obtain rfl := Option.some.inj hx'
  obtain rfl := Option.some.inj hy'
  clear hx hy hx' hy'
  rw [hm] at cy
  have hm1 : IntKind.i64.wrap ((n : Int) - 1) = (m : Int) := by
    rw [show (n : Int) - 1 = (m : Int) by omega]
    exact IntWalk.i64_in _ (by omega)
  have l1 : ¬ (n : Int) < 2 := by omega
  have l2 : (m : Int) < n := by omega
  have l3 : (0 : Int) ≤ m := by omega
  have l4 : 0 < n := by omega
  have l5 : m < n := by omega
  subst hA
  have hc := fun w => rclamp_any ⟨ci, cd, cq, ce, cl, ct, cr⟩ w
  obtain ⟨c', hc'⟩ : ∃ c', clampF ⟨ci, cd, cq, ce, cl, ct, cr⟩ = c' := ⟨_, rfl⟩
  rw [hc'] at hc hq
  clear hc'
  obtain ⟨di, dd, dq, de, dl, dt, dr⟩ := c'
  dsimp only at hq
  subst hq
  have HC := Lib.hid hc
  unfold Cf.val at HC
  dsimp only at HC
  clear hc
  have K0 := (Kept.refl w).alloc (.cells #[.int .i64 ci, .int .i64 cd, .int .i64 cq, .int .i64 ce, .int .i64 cl, .bool ct, .bool cr] 27)
  have hfd : ∀ w : World, (Instr.field 27 (.agg #[.int .i64 di, .int .i64 dd, .int .i64 0, .int .i64 de, .int .i64 dl, .bool dt, .bool dr]) 2).run Try.prog w = .ok (.int .i64 0) w := fun _ => by kernel_rfl
  go_enter Try.func22, Try.ntmps22
  go_wp2_with fail
  refine (HC.out _).mono ?_
  rintro e w1 ⟨rfl, k1⟩
  have K1 := K0.trans k1
  clear HC K0 k1
  go_upto_region 2 with fail
  have qx : ∀ p : KeptFrom w1, p.x.cell? ⟨b, o, none⟩ = some (.int .i32 34) := fun p => (K1.trans p.k).cell cx
  have qy : ∀ p : KeptFrom w1, p.x.cell? ⟨b, o + m, none⟩ = some (.int .i32 34) := fun p => (K1.trans p.k).cell cy
  refine wp_region_kept (by kernel_rfl) (by kernel_rfl) ?_
  repeat (quiet_step (fail))
  refine wpQuiet_nil ?_
  rintro w2 ⟨p, hp⟩
  have k2 : Kept w1 w2 := by
    rw [hp]
    exact p.k
  clear hp p
  have K2 := K1.trans k2
  have cx2 := K2.cell cx
  clear qx qy
  go_wp2_with fail
  go_ret
  exact ⟨_, c, by rw [HLL.out]; rfl, by rw [HLL.out]; exact h.kept K2, K2⟩

set_option maxHeartbeats 4000000 in
theorem rvalue_keep039 (w : World) (ci cd cq ce cl : Int) (ct cr : Bool) (A : Option Addr) (n c : Nat) (l : List Int) (h : Sl w 1 A n c (l.map (Value.int .i32))) (hn : n ≤ 60) (h2 : 2 ≤ n) (hx : l[0]? = some 39) (hy : l[n - 1]? = some 39) (hq : (clampF ⟨ci, cd, cq, ce, cl, ct, cr⟩).q = 0) :
    Calls Try.prog 22 #[.agg #[.int .i64 ci, .int .i64 cd, .int .i64 cq, .int .i64 ce, .int .i64 cl, .bool ct, .bool cr], .slice A n c] w fun e w' => RunesOf l w e w' := by
  have HLL := Lib.hid h.llen1
  obtain ⟨m, hm⟩ : ∃ m, n - 1 = m := ⟨_, rfl⟩
  obtain ⟨b, o, x', y, hA, hx', hy', cx, cy⟩ := two_ends h h2
  rw [hx] at hx'
  rw [hy] at hy'
  obtain rfl := Option.some.inj hx'
  obtain rfl := Option.some.inj hy'
  clear hx hy hx' hy'
  rw [hm] at cy
  have hm1 : IntKind.i64.wrap ((n : Int) - 1) = (m : Int) := by
    rw [show (n : Int) - 1 = (m : Int) by omega]
    exact IntWalk.i64_in _ (by omega)
  have l1 : ¬ (n : Int) < 2 := by omega
  have l2 : (m : Int) < n := by omega
  have l3 : (0 : Int) ≤ m := by omega
  have l4 : 0 < n := by omega
  have l5 : m < n := by omega
  subst hA
  have hc := fun w => rclamp_any ⟨ci, cd, cq, ce, cl, ct, cr⟩ w
  obtain ⟨c', hc'⟩ : ∃ c', clampF ⟨ci, cd, cq, ce, cl, ct, cr⟩ = c' := ⟨_, rfl⟩
  rw [hc'] at hc hq
  clear hc'
  obtain ⟨di, dd, dq, de, dl, dt, dr⟩ := c'
  dsimp only at hq
  subst hq
  have HC := Lib.hid hc
  unfold Cf.val at HC
  dsimp only at HC
  clear hc
  have K0 := (Kept.refl w).alloc (.cells #[.int .i64 ci, .int .i64 cd, .int .i64 cq, .int .i64 ce, .int .i64 cl, .bool ct, .bool cr] 27)
  have hfd : ∀ w : World, (Instr.field 27 (.agg #[.int .i64 di, .int .i64 dd, .int .i64 0, .int .i64 de, .int .i64 dl, .bool dt, .bool dr]) 2).run Try.prog w = .ok (.int .i64 0) w := fun _ => by kernel_rfl
  go_enter Try.func22, Try.ntmps22
  go_wp2_with fail
  refine (HC.out _).mono ?_
  rintro e w1 ⟨rfl, k1⟩
  have K1 := K0.trans k1
  clear HC K0 k1
  go_upto_region 2 with fail
  have qx : ∀ p : KeptFrom w1, p.x.cell? ⟨b, o, none⟩ = some (.int .i32 39) := fun p => (K1.trans p.k).cell cx
  have qy : ∀ p : KeptFrom w1, p.x.cell? ⟨b, o + m, none⟩ = some (.int .i32 39) := fun p => (K1.trans p.k).cell cy
  refine wp_region_kept (by kernel_rfl) (by kernel_rfl) ?_
  repeat (quiet_step (fail))
  refine wpQuiet_nil ?_
  rintro w2 ⟨p, hp⟩
  have k2 : Kept w1 w2 := by
    rw [hp]
    exact p.k
  clear hp p
  have K2 := K1.trans k2
  have cx2 := K2.cell cx
  clear qx qy
  go_wp2_with fail
  go_ret
  exact ⟨_, c, by rw [HLL.out]; rfl, by rw [HLL.out]; exact h.kept K2, K2⟩

set_option maxHeartbeats 4000000 in
theorem rvalue_keep134 (w : World) (ci cd cq ce cl : Int) (ct cr : Bool) (A : Option Addr) (n c : Nat) (l : List Int) (h : Sl w 1 A n c (l.map (Value.int .i32))) (hn : n ≤ 60) (h2 : 2 ≤ n) (hx : l[0]? = some 34) (hy : l[n - 1]? = some 34) (hq : (clampF ⟨ci, cd, cq, ce, cl, ct, cr⟩).q = 1) :
    Calls Try.prog 22 #[.agg #[.int .i64 ci, .int .i64 cd, .int .i64 cq, .int .i64 ce, .int .i64 cl, .bool ct, .bool cr], .slice A n c] w fun e w' => RunesOf l w e w' := by
  have HLL := Lib.hid h.llen1
  obtain ⟨m, hm⟩ : ∃ m, n - 1 = m := ⟨_, rfl⟩
  obtain ⟨b, o, x', y, hA, hx', hy', cx, cy⟩ := two_ends h h2
  rw [hx] at hx'
  rw [hy] at hy'
  obtain rfl := Option.some.inj hx'
  obtain rfl := Option.some.inj hy'
  clear hx hy hx' hy'
  rw [hm] at cy
  have hm1 : IntKind.i64.wrap ((n : Int) - 1) = (m : Int) := by
    rw [show (n : Int) - 1 = (m : Int) by omega]
    exact IntWalk.i64_in _ (by omega)
  have l1 : ¬ (n : Int) < 2 := by omega
  have l2 : (m : Int) < n := by omega
  have l3 : (0 : Int) ≤ m := by omega
  have l4 : 0 < n := by omega
  have l5 : m < n := by omega
  subst hA
  have hc := fun w => rclamp_any ⟨ci, cd, cq, ce, cl, ct, cr⟩ w
  obtain ⟨c', hc'⟩ : ∃ c', clampF ⟨ci, cd, cq, ce, cl, ct, cr⟩ = c' := ⟨_, rfl⟩
  rw [hc'] at hc hq
  clear hc'
  obtain ⟨di, dd, dq, de, dl, dt, dr⟩ := c'
  dsimp only at hq
  subst hq
  have HC := Lib.hid hc
  unfold Cf.val at HC
  dsimp only at HC
  clear hc
  have K0 := (Kept.refl w).alloc (.cells #[.int .i64 ci, .int .i64 cd, .int .i64 cq, .int .i64 ce, .int .i64 cl, .bool ct, .bool cr] 27)
  have hfd : ∀ w : World, (Instr.field 27 (.agg #[.int .i64 di, .int .i64 dd, .int .i64 1, .int .i64 de, .int .i64 dl, .bool dt, .bool dr]) 2).run Try.prog w = .ok (.int .i64 1) w := fun _ => by kernel_rfl
  go_enter Try.func22, Try.ntmps22
  go_wp2_with fail
  refine (HC.out _).mono ?_
  rintro e w1 ⟨rfl, k1⟩
  have K1 := K0.trans k1
  clear HC K0 k1
  go_upto_region 2 with fail
  have qx : ∀ p : KeptFrom w1, p.x.cell? ⟨b, o, none⟩ = some (.int .i32 34) := fun p => (K1.trans p.k).cell cx
  have qy : ∀ p : KeptFrom w1, p.x.cell? ⟨b, o + m, none⟩ = some (.int .i32 34) := fun p => (K1.trans p.k).cell cy
  refine wp_region_kept (by kernel_rfl) (by kernel_rfl) ?_
  repeat (quiet_step (fail))
  refine wpQuiet_nil ?_
  rintro w2 ⟨p, hp⟩
  have k2 : Kept w1 w2 := by
    rw [hp]
    exact p.k
  clear hp p
  have K2 := K1.trans k2
  have cx2 := K2.cell cx
  clear qx qy
  go_wp2_with fail
  go_ret
  exact ⟨_, c, by rw [HLL.out]; rfl, by rw [HLL.out]; exact h.kept K2, K2⟩

set_option maxHeartbeats 4000000 in
theorem rvalue_keep239 (w : World) (ci cd cq ce cl : Int) (ct cr : Bool) (A : Option Addr) (n c : Nat) (l : List Int) (h : Sl w 1 A n c (l.map (Value.int .i32))) (hn : n ≤ 60) (h2 : 2 ≤ n) (hx : l[0]? = some 39) (hy : l[n - 1]? = some 39) (hq : (clampF ⟨ci, cd, cq, ce, cl, ct, cr⟩).q = 2) :
    Calls Try.prog 22 #[.agg #[.int .i64 ci, .int .i64 cd, .int .i64 cq, .int .i64 ce, .int .i64 cl, .bool ct, .bool cr], .slice A n c] w fun e w' => RunesOf l w e w' := by
  have HLL := Lib.hid h.llen1
  obtain ⟨m, hm⟩ : ∃ m, n - 1 = m := ⟨_, rfl⟩
  obtain ⟨b, o, x', y, hA, hx', hy', cx, cy⟩ := two_ends h h2
  rw [hx] at hx'
  rw [hy] at hy'
  obtain rfl := Option.some.inj hx'
  obtain rfl := Option.some.inj hy'
  clear hx hy hx' hy'
  rw [hm] at cy
  have hm1 : IntKind.i64.wrap ((n : Int) - 1) = (m : Int) := by
    rw [show (n : Int) - 1 = (m : Int) by omega]
    exact IntWalk.i64_in _ (by omega)
  have l1 : ¬ (n : Int) < 2 := by omega
  have l2 : (m : Int) < n := by omega
  have l3 : (0 : Int) ≤ m := by omega
  have l4 : 0 < n := by omega
  have l5 : m < n := by omega
  subst hA
  have hc := fun w => rclamp_any ⟨ci, cd, cq, ce, cl, ct, cr⟩ w
  obtain ⟨c', hc'⟩ : ∃ c', clampF ⟨ci, cd, cq, ce, cl, ct, cr⟩ = c' := ⟨_, rfl⟩
  rw [hc'] at hc hq
  clear hc'
  obtain ⟨di, dd, dq, de, dl, dt, dr⟩ := c'
  dsimp only at hq
  subst hq
  have HC := Lib.hid hc
  unfold Cf.val at HC
  dsimp only at HC
  clear hc
  have K0 := (Kept.refl w).alloc (.cells #[.int .i64 ci, .int .i64 cd, .int .i64 cq, .int .i64 ce, .int .i64 cl, .bool ct, .bool cr] 27)
  have hfd : ∀ w : World, (Instr.field 27 (.agg #[.int .i64 di, .int .i64 dd, .int .i64 2, .int .i64 de, .int .i64 dl, .bool dt, .bool dr]) 2).run Try.prog w = .ok (.int .i64 2) w := fun _ => by kernel_rfl
  go_enter Try.func22, Try.ntmps22
  go_wp2_with fail
  refine (HC.out _).mono ?_
  rintro e w1 ⟨rfl, k1⟩
  have K1 := K0.trans k1
  clear HC K0 k1
  go_upto_region 2 with fail
  have qx : ∀ p : KeptFrom w1, p.x.cell? ⟨b, o, none⟩ = some (.int .i32 39) := fun p => (K1.trans p.k).cell cx
  have qy : ∀ p : KeptFrom w1, p.x.cell? ⟨b, o + m, none⟩ = some (.int .i32 39) := fun p => (K1.trans p.k).cell cy
  refine wp_region_kept (by kernel_rfl) (by kernel_rfl) ?_
  repeat (quiet_step (fail))
  refine wpQuiet_nil ?_
  rintro w2 ⟨p, hp⟩
  have k2 : Kept w1 w2 := by
    rw [hp]
    exact p.k
  clear hp p
  have K2 := K1.trans k2
  have cx2 := K2.cell cx
  clear qx qy
  go_wp2_with fail
  go_ret
  exact ⟨_, c, by rw [HLL.out]; rfl, by rw [HLL.out]; exact h.kept K2, K2⟩

set_option maxRecDepth 8000 in
set_option maxHeartbeats 8000000 in
theorem rvalue_turn34 (w : World) (ci cd cq ce cl : Int) (ct cr : Bool) (A : Option Addr) (n c : Nat) (l : List Int) (h : Sl w 1 A n c (l.map (Value.int .i32))) (hn : n ≤ 60) (M : List Int) (hl : l = 39 :: (M ++ [39])) (hq : (clampF ⟨ci, cd, cq, ce, cl, ct, cr⟩).q = 1) :
    Calls Try.prog 22 #[.agg #[.int .i64 ci, .int .i64 cd, .int .i64 cq, .int .i64 ce, .int .i64 cl, .bool ct, .bool cr], .slice A n c] w fun e w' => RunesOf (34 :: (replF 34 [38, 113, 117, 111, 116, 59] M ++ [34])) w e w' := by
  have hll := h.llen1
  have hMl : M.length + 2 = n := by
    rw [hl] at hll
    simpa using hll
  have h2 : 2 ≤ n := by omega
  have hx : l[0]? = some 39 := by rw [hl]; rfl
  have hy : l[n - 1]? = some 39 := by
    rw [hl, show n - 1 = M.length + 1 by omega, List.getElem?_cons_succ, List.getElem?_append_right (Nat.le_refl _), Nat.sub_self]
    rfl
  have hcm : (l.drop 1).take (n - 1 - 1) = M := by
    rw [hl, List.drop_succ_cons, List.drop_zero, show n - 1 - 1 = M.length by omega, List.take_left]
  obtain ⟨m, hm⟩ : ∃ m, n - 1 = m := ⟨_, rfl⟩
  obtain ⟨b, o, x', y, hA, hx', hy', cx, cy⟩ := two_ends h h2
  rw [hx] at hx'
  rw [hy] at hy'
  obtain rfl := Option.some.inj hx'
  obtain rfl := Option.some.inj hy'
  have hcut0 := h.cut1 (i := 1) (m := n - 1) (by omega) (by omega)
  rw [hcm] at hcut0
  clear hx hy hx' hy' hcm hll hl
  rw [hm] at cy hcut0
  obtain ⟨K, hK⟩ : ∃ K, m - 1 = K := ⟨_, rfl⟩
  obtain ⟨C, hC⟩ : ∃ C, cutA A c 1 1 = C := ⟨_, rfl⟩
  rw [hK, hC] at hcut0
  have hncap := h.cap
  have hcut : ∀ wv : World, (Instr.slice 36 (.slice A n c) (some (.int .i64 1)) (some (.int .i64 (m : Int))) none).run Try.prog wv = .ok (.slice C K (c - 1)) wv := by
    intro wv
    have h1 := run_cut_lh appT_run A n c 1 m (by omega) (by omega) wv
    rw [hC, hK] at h1
    exact h1
  have HM := Lib.hid hcut0
  have HML := Lib.hid (show M.length = K by omega)
  have lK : K ≤ 60 := by omega
  clear hC hK hcut0 hMl
  have hm1 : IntKind.i64.wrap ((n : Int) - 1) = (m : Int) := by
    rw [show (n : Int) - 1 = (m : Int) by omega]
    exact IntWalk.i64_in _ (by omega)
  have l1 : ¬ (n : Int) < 2 := by omega
  have l2 : (m : Int) < n := by omega
  have l3 : (0 : Int) ≤ m := by omega
  have l4 : 0 < n := by omega
  have l5 : m < n := by omega
  have l7 : (1 : Int) ≤ m := by omega
  have l8 : (m : Int) ≤ c := by omega
  subst hA
  have hc := fun w => rclamp_any ⟨ci, cd, cq, ce, cl, ct, cr⟩ w
  obtain ⟨c', hc'⟩ : ∃ c', clampF ⟨ci, cd, cq, ce, cl, ct, cr⟩ = c' := ⟨_, rfl⟩
  rw [hc'] at hc hq
  clear hc'
  obtain ⟨di, dd, dq, de, dl, dt, dr⟩ := c'
  dsimp only at hq
  subst hq
  have HC := Lib.hid hc
  unfold Cf.val at HC
  dsimp only at HC
  clear hc
  have K0 := (Kept.refl w).alloc (.cells #[.int .i64 ci, .int .i64 cd, .int .i64 cq, .int .i64 ce, .int .i64 cl, .bool ct, .bool cr] 27)
  have hfd : ∀ w : World, (Instr.field 27 (.agg #[.int .i64 di, .int .i64 dd, .int .i64 1, .int .i64 de, .int .i64 dl, .bool dt, .bool dr]) 2).run Try.prog w = .ok (.int .i64 1) w := fun _ => by kernel_rfl
  go_enter Try.func22, Try.ntmps22
  go_wp2_with fail
  refine (HC.out _).mono ?_
  rintro e w1 ⟨rfl, k1⟩
  have K1 := K0.trans k1
  clear HC K0 k1
  go_upto_region 2 with fail
  have qx : ∀ p : KeptFrom w1, p.x.cell? ⟨b, o, none⟩ = some (.int .i32 39) := fun p => (K1.trans p.k).cell cx
  have qy : ∀ p : KeptFrom w1, p.x.cell? ⟨b, o + m, none⟩ = some (.int .i32 39) := fun p => (K1.trans p.k).cell cy
  refine wp_region_kept (by kernel_rfl) (by kernel_rfl) ?_
  repeat (quiet_step (fail))
  refine wpQuiet_nil ?_
  rintro w2 ⟨p, hp⟩
  have k2 : Kept w1 w2 := by
    rw [hp]
    exact p.k
  clear hp p
  have K2 := K1.trans k2
  have cx2 := K2.cell cx
  have cxl := World.block_lt_of_cell? w2 _ cx2
  clear qx qy
  have HRU := Lib.hid (fun wv => rrunes_any ⟨#[38, 113, 117, 111, 116, 59]⟩ wv (by decide))
  have hru : runesX ⟨#[38, 113, 117, 111, 116, 59]⟩ = [38, 113, 117, 111, 116, 59] := by decide +kernel
  rw [hru] at HRU
  clear hru
  go_upto_region 10 with fail
  have own0 : (w2.alloc (.cells #[.int .i32 34] 21)).ownsRow w.heap.size 21 1 (.slice (some ⟨w2.heap.size, 0, none⟩) 1 1) 1 ([.int .i32 34]) := own_lit (by rfl) (by omega) K2.size
  have K4 : Kept w (w2.alloc (.cells #[.int .i32 34] 21)) := K2.alloc _
  generalize w2.alloc (.cells #[.int .i32 34] 21) = w4 at own0 K4 ⊢
  have HO := Lib.hid own0
  clear own0 cx2 cxl
  go_wp2_with fail
  go_loopw [8, 75] (fun v i wr => ∃ (k N : Nat), k ≤ K ∧ i = .int .i64 k ∧ N ≤ 1 + 6 * k ∧ wr.ownsRow w.heap.size 21 1 v N ((34 :: replF 34 [38, 113, 117, 111, 116, 59] (M.take k)).map (Value.int .i32)) ∧ Kept w wr) (fun _ i _ => K - (intOf i).toNat)
  case atStart => exact ⟨0, 1, Nat.zero_le _, rfl, by omega, HO.out, K4⟩
  case round =>
    obtain ⟨k, N, hk, rfl, hN, hown, hkept⟩ := hrel
    by_cases hlt : k < K
    · obtain ⟨pb, po, y, rfl, hy, cy, hyb⟩ := (HM.out.kept hkept).oneb hlt
      have HY := Lib.hid hy
      have lk : (k : Int) < K := by omega
      clear hy
      by_cases hyq : y = 34
      · have HR : Hid (replF 34 [38, 113, 117, 111, 116, 59] (M.take (k + 1)) = replF 34 [38, 113, 117, 111, 116, 59] (M.take k) ++ [38, 113, 117, 111, 116, 59]) := by
          unfold Hid
          rw [List.take_add_one, HY.out, hyq]
          simp [replF, List.flatMap_append]
        subst hyq
        go_wp2_with fail
        refine (HRU.out _).mono ?_
        rintro e w5 ⟨VA, VC, rfl, hS5, k5⟩
        have hown5 := own_kept hown k5
        have hk5 := hkept.trans k5
        have hlen6 : N + [38, 113, 117, 111, 116, 59].length ≤ 4294967296 := by simp; omega
        go_wp2_with (at_builtin; refine wpList_appk w (by rfl) _ _ (by rfl) appT_run (by rfl) hown5 hk5 (by rfl) hS5 ⟨ints_one _ _, hlen6⟩ ?_; intro v' w' hown' hk' _ _)
        go_roundw
        case rel => exact ⟨k + 1, N + 6, hlt, by go_num, by omega, by rw [HR.out, ← List.cons_append, List.map_append]; exact hown', hk'⟩
        case measure =>
          simp [intOf]
          omega
      · have HR : Hid (replF 34 [38, 113, 117, 111, 116, 59] (M.take (k + 1)) = replF 34 [38, 113, 117, 111, 116, 59] (M.take k) ++ [y]) := by
          unfold Hid
          rw [List.take_add_one, HY.out]
          simp [replF, List.flatMap_append, hyq]
        have hyb' : (y == 34) = false := by simpa using hyq
        go_wp2_with (at_builtin; refine wpList_push w (by rfl) _ _ (by rfl) appT_run (by rfl) hown hkept (by rfl) ?_ ?_; (exact ⟨rfl, rfl, rfl, by omega⟩); intro v' w' hown' hk' _ _)
        go_roundw
        case rel => exact ⟨k + 1, N + 1, hlt, by go_num, by omega, by rw [HR.out, ← List.cons_append, List.map_append]; exact hown', hk'⟩
        case measure =>
          simp [intOf]
          omega
    · obtain rfl : k = K := by omega
      have hT : M.take k = M := List.take_of_length_le (by rw [HML.out]; exact Nat.le_refl _)
      rw [hT] at hown
      have hN6 : N ≤ 400 := by omega
      clear hT
      go_wp2_with (at_builtin; refine wpList_push w (by rfl) _ _ (by rfl) appT_run (by rfl) hown hkept (by rfl) ?_ ?_; (exact ⟨rfl, rfl, rfl, by omega⟩); intro v' w' hown' hk' _ _)
      obtain ⟨VA, VC, rfl, hV⟩ := Sl.of_own hown'
      have hVl : N + 1 = (34 :: (replF 34 [38, 113, 117, 111, 116, 59] M ++ [34])).length := by
        have := hV.len
        simp at this
        simp
        omega
      have HV := Lib.hid hVl
      have HVS : Hid (Sl w' 1 (VA) (N + 1) VC ((34 :: (replF 34 [38, 113, 117, 111, 116, 59] M ++ [34])).map (Value.int .i32))) := by
        unfold Hid
        rw [← List.cons_append, List.map_append]
        exact hV
      clear hV hVl hown'
      go_wp2_with fail
      go_ret
      exact ⟨VA, VC, by rw [← HV.out]; rfl, by rw [← HV.out]; exact HVS.out, hk'⟩

set_option maxRecDepth 8000 in
set_option maxHeartbeats 8000000 in
theorem rvalue_turn39 (w : World) (ci cd cq ce cl : Int) (ct cr : Bool) (A : Option Addr) (n c : Nat) (l : List Int) (h : Sl w 1 A n c (l.map (Value.int .i32))) (hn : n ≤ 60) (M : List Int) (hl : l = 34 :: (M ++ [34])) (hq : (clampF ⟨ci, cd, cq, ce, cl, ct, cr⟩).q = 2) :
    Calls Try.prog 22 #[.agg #[.int .i64 ci, .int .i64 cd, .int .i64 cq, .int .i64 ce, .int .i64 cl, .bool ct, .bool cr], .slice A n c] w fun e w' => RunesOf (39 :: (replF 39 [38, 97, 112, 111, 115, 59] M ++ [39])) w e w' := by
  have hll := h.llen1
  have hMl : M.length + 2 = n := by
    rw [hl] at hll
    simpa using hll
  have h2 : 2 ≤ n := by omega
  have hx : l[0]? = some 34 := by rw [hl]; rfl
  have hy : l[n - 1]? = some 34 := by
    rw [hl, show n - 1 = M.length + 1 by omega, List.getElem?_cons_succ, List.getElem?_append_right (Nat.le_refl _), Nat.sub_self]
    rfl
  have hcm : (l.drop 1).take (n - 1 - 1) = M := by
    rw [hl, List.drop_succ_cons, List.drop_zero, show n - 1 - 1 = M.length by omega, List.take_left]
  obtain ⟨m, hm⟩ : ∃ m, n - 1 = m := ⟨_, rfl⟩
  obtain ⟨b, o, x', y, hA, hx', hy', cx, cy⟩ := two_ends h h2
  rw [hx] at hx'
  rw [hy] at hy'
  obtain rfl := Option.some.inj hx'
  obtain rfl := Option.some.inj hy'
  have hcut0 := h.cut1 (i := 1) (m := n - 1) (by omega) (by omega)
  rw [hcm] at hcut0
  clear hx hy hx' hy' hcm hll hl
  rw [hm] at cy hcut0
  obtain ⟨K, hK⟩ : ∃ K, m - 1 = K := ⟨_, rfl⟩
  obtain ⟨C, hC⟩ : ∃ C, cutA A c 1 1 = C := ⟨_, rfl⟩
  rw [hK, hC] at hcut0
  have hncap := h.cap
  have hcut : ∀ wv : World, (Instr.slice 36 (.slice A n c) (some (.int .i64 1)) (some (.int .i64 (m : Int))) none).run Try.prog wv = .ok (.slice C K (c - 1)) wv := by
    intro wv
    have h1 := run_cut_lh appT_run A n c 1 m (by omega) (by omega) wv
    rw [hC, hK] at h1
    exact h1
  have HM := Lib.hid hcut0
  have HML := Lib.hid (show M.length = K by omega)
  have lK : K ≤ 60 := by omega
  clear hC hK hcut0 hMl
  have hm1 : IntKind.i64.wrap ((n : Int) - 1) = (m : Int) := by
    rw [show (n : Int) - 1 = (m : Int) by omega]
    exact IntWalk.i64_in _ (by omega)
  have l1 : ¬ (n : Int) < 2 := by omega
  have l2 : (m : Int) < n := by omega
  have l3 : (0 : Int) ≤ m := by omega
  have l4 : 0 < n := by omega
  have l5 : m < n := by omega
  have l7 : (1 : Int) ≤ m := by omega
  have l8 : (m : Int) ≤ c := by omega
  subst hA
  have hc := fun w => rclamp_any ⟨ci, cd, cq, ce, cl, ct, cr⟩ w
  obtain ⟨c', hc'⟩ : ∃ c', clampF ⟨ci, cd, cq, ce, cl, ct, cr⟩ = c' := ⟨_, rfl⟩
  rw [hc'] at hc hq
  clear hc'
  obtain ⟨di, dd, dq, de, dl, dt, dr⟩ := c'
  dsimp only at hq
  subst hq
  have HC := Lib.hid hc
  unfold Cf.val at HC
  dsimp only at HC
  clear hc
  have K0 := (Kept.refl w).alloc (.cells #[.int .i64 ci, .int .i64 cd, .int .i64 cq, .int .i64 ce, .int .i64 cl, .bool ct, .bool cr] 27)
  have hfd : ∀ w : World, (Instr.field 27 (.agg #[.int .i64 di, .int .i64 dd, .int .i64 2, .int .i64 de, .int .i64 dl, .bool dt, .bool dr]) 2).run Try.prog w = .ok (.int .i64 2) w := fun _ => by kernel_rfl
  go_enter Try.func22, Try.ntmps22
  go_wp2_with fail
  refine (HC.out _).mono ?_
  rintro e w1 ⟨rfl, k1⟩
  have K1 := K0.trans k1
  clear HC K0 k1
  go_upto_region 2 with fail
  have qx : ∀ p : KeptFrom w1, p.x.cell? ⟨b, o, none⟩ = some (.int .i32 34) := fun p => (K1.trans p.k).cell cx
  have qy : ∀ p : KeptFrom w1, p.x.cell? ⟨b, o + m, none⟩ = some (.int .i32 34) := fun p => (K1.trans p.k).cell cy
  refine wp_region_kept (by kernel_rfl) (by kernel_rfl) ?_
  repeat (quiet_step (fail))
  refine wpQuiet_nil ?_
  rintro w2 ⟨p, hp⟩
  have k2 : Kept w1 w2 := by
    rw [hp]
    exact p.k
  clear hp p
  have K2 := K1.trans k2
  have cx2 := K2.cell cx
  have cxl := World.block_lt_of_cell? w2 _ cx2
  clear qx qy
  have HRU := Lib.hid (fun wv => rrunes_any ⟨#[38, 97, 112, 111, 115, 59]⟩ wv (by decide))
  have hru : runesX ⟨#[38, 97, 112, 111, 115, 59]⟩ = [38, 97, 112, 111, 115, 59] := by decide +kernel
  rw [hru] at HRU
  clear hru
  go_upto_region 10 with fail
  have own0 : (w2.alloc (.cells #[.int .i32 39] 21)).ownsRow w.heap.size 21 1 (.slice (some ⟨w2.heap.size, 0, none⟩) 1 1) 1 ([.int .i32 39]) := own_lit (by rfl) (by omega) K2.size
  have K4 : Kept w (w2.alloc (.cells #[.int .i32 39] 21)) := K2.alloc _
  generalize w2.alloc (.cells #[.int .i32 39] 21) = w4 at own0 K4 ⊢
  have HO := Lib.hid own0
  clear own0 cx2 cxl
  go_wp2_with fail
  go_loopw [8, 75] (fun v i wr => ∃ (k N : Nat), k ≤ K ∧ i = .int .i64 k ∧ N ≤ 1 + 6 * k ∧ wr.ownsRow w.heap.size 21 1 v N ((39 :: replF 39 [38, 97, 112, 111, 115, 59] (M.take k)).map (Value.int .i32)) ∧ Kept w wr) (fun _ i _ => K - (intOf i).toNat)
  case atStart => exact ⟨0, 1, Nat.zero_le _, rfl, by omega, HO.out, K4⟩
  case round =>
    obtain ⟨k, N, hk, rfl, hN, hown, hkept⟩ := hrel
    by_cases hlt : k < K
    · obtain ⟨pb, po, y, rfl, hy, cy, hyb⟩ := (HM.out.kept hkept).oneb hlt
      have HY := Lib.hid hy
      have lk : (k : Int) < K := by omega
      clear hy
      by_cases hyq : y = 39
      · have HR : Hid (replF 39 [38, 97, 112, 111, 115, 59] (M.take (k + 1)) = replF 39 [38, 97, 112, 111, 115, 59] (M.take k) ++ [38, 97, 112, 111, 115, 59]) := by
          unfold Hid
          rw [List.take_add_one, HY.out, hyq]
          simp [replF, List.flatMap_append]
        subst hyq
        go_wp2_with fail
        refine (HRU.out _).mono ?_
        rintro e w5 ⟨VA, VC, rfl, hS5, k5⟩
        have hown5 := own_kept hown k5
        have hk5 := hkept.trans k5
        have hlen6 : N + [38, 97, 112, 111, 115, 59].length ≤ 4294967296 := by simp; omega
        go_wp2_with (at_builtin; refine wpList_appk w (by rfl) _ _ (by rfl) appT_run (by rfl) hown5 hk5 (by rfl) hS5 ⟨ints_one _ _, hlen6⟩ ?_; intro v' w' hown' hk' _ _)
        go_roundw
        case rel => exact ⟨k + 1, N + 6, hlt, by go_num, by omega, by rw [HR.out, ← List.cons_append, List.map_append]; exact hown', hk'⟩
        case measure =>
          simp [intOf]
          omega
      · have HR : Hid (replF 39 [38, 97, 112, 111, 115, 59] (M.take (k + 1)) = replF 39 [38, 97, 112, 111, 115, 59] (M.take k) ++ [y]) := by
          unfold Hid
          rw [List.take_add_one, HY.out]
          simp [replF, List.flatMap_append, hyq]
        have hyb' : (y == 39) = false := by simpa using hyq
        go_wp2_with (at_builtin; refine wpList_push w (by rfl) _ _ (by rfl) appT_run (by rfl) hown hkept (by rfl) ?_ ?_; (exact ⟨rfl, rfl, rfl, by omega⟩); intro v' w' hown' hk' _ _)
        go_roundw
        case rel => exact ⟨k + 1, N + 1, hlt, by go_num, by omega, by rw [HR.out, ← List.cons_append, List.map_append]; exact hown', hk'⟩
        case measure =>
          simp [intOf]
          omega
    · obtain rfl : k = K := by omega
      have hT : M.take k = M := List.take_of_length_le (by rw [HML.out]; exact Nat.le_refl _)
      rw [hT] at hown
      have hN6 : N ≤ 400 := by omega
      clear hT
      go_wp2_with (at_builtin; refine wpList_push w (by rfl) _ _ (by rfl) appT_run (by rfl) hown hkept (by rfl) ?_ ?_; (exact ⟨rfl, rfl, rfl, by omega⟩); intro v' w' hown' hk' _ _)
      obtain ⟨VA, VC, rfl, hV⟩ := Sl.of_own hown'
      have hVl : N + 1 = (39 :: (replF 39 [38, 97, 112, 111, 115, 59] M ++ [39])).length := by
        have := hV.len
        simp at this
        simp
        omega
      have HV := Lib.hid hVl
      have HVS : Hid (Sl w' 1 (VA) (N + 1) VC ((39 :: (replF 39 [38, 97, 112, 111, 115, 59] M ++ [39])).map (Value.int .i32))) := by
        unfold Hid
        rw [← List.cons_append, List.map_append]
        exact hV
      clear hV hVl hown'
      go_wp2_with fail
      go_ret
      exact ⟨VA, VC, by rw [← HV.out]; rfl, by rw [← HV.out]; exact HVS.out, hk'⟩

end Go.Proofs.Ytmicmmbdkmmnoaa
