/- conf.Value walked (printed by wip/gen/gen_conaf.py). -/
import Derived.Test.YtmicmmbdkmmnoaaConAe
namespace Go.Proofs.Ytmicmmbdkmmnoaa
open Go.RowKit
attribute [local go_sem ↓] Go.wp_at_zero Go.wp_at_succ

def RunesOf (L : List Int) (w : World) (e : Ending) (w' : World) : Prop := ∃ VA VC, e = .returned (.slice VA L.length VC) ∧ Sl w' 1 VA L.length VC (L.map (Value.int .i32)) ∧ Kept w w'
/-- First and last of at least two. -/
theorem two_ends {w : World} {A : Option Addr} {n c : Nat} {l : List Int} (h : Sl w 1 A n c (l.map (Value.int .i32))) (hn : 2 ≤ n) : ∃ b o x y, A = some ⟨b, o, none⟩ ∧ l[0]? = some x ∧ l[n - 1]? = some y ∧ w.cell? ⟨b, o, none⟩ = some (.int .i32 x) ∧ w.cell? ⟨b, o + (n - 1), none⟩ = some (.int .i32 y) := by
  obtain ⟨b, o, x, hA, hx, cx, _⟩ := h.oneb (k := 0) (by omega)
  obtain ⟨b', o', y, hA', hy, cy, _⟩ := h.oneb (k := n - 1) (by omega)
  rw [hA] at hA'
  injection hA' with e
  injection e with e1 e2
  subst e1 e2
  exact ⟨b, o, x, y, hA, hx, hy, cx, cy⟩

set_option maxHeartbeats 4000000 in
theorem value_short (w : World) (ci cd cq ce cl : Int) (ct cr : Bool) (A : Option Addr) (n c : Nat) (l : List Int) (h : Sl w 1 A n c (l.map (Value.int .i32))) (hn : n ≤ 60) (h2 : n < 2) :
    Calls Try.prog 21 #[.agg #[.int .i64 ci, .int .i64 cd, .int .i64 cq, .int .i64 ce, .int .i64 cl, .bool ct, .bool cr], .slice A n c] w fun e w' => RunesOf l w e w' := by
  have HLL := Lib.hid h.llen1
  have B0 := Blk.new w #[.int .i64 ci, .int .i64 cd, .int .i64 cq, .int .i64 ce, .int .i64 cl, .bool ct, .bool cr] 23
  have K0 := (Kept.refl w).alloc (.cells #[.int .i64 ci, .int .i64 cd, .int .i64 cq, .int .i64 ce, .int .i64 cl, .bool ct, .bool cr] 23)
  obtain ⟨z, hz, hz1⟩ : ∃ z : Int, IntKind.i64.wrap ((n : Int) - 1) = z ∧ z < 1 := ⟨(n : Int) - 1, IntWalk.i64_in _ (by omega), by omega⟩
  go_enter Try.func21, Try.ntmps21
  go_upto_region 2 with fail
  generalize w.alloc (.cells #[.int .i64 ci, .int .i64 cd, .int .i64 cq, .int .i64 ce, .int .i64 cl, .bool ct, .bool cr] 23) = w1 at K0 B0 ⊢
  obtain ⟨g, hg⟩ : ∃ g, w.heap.size = g := ⟨_, rfl⟩
  rw [hg] at B0 ⊢
  clear hg
  clear B0
  have k2 : Kept w1 w1.drew := (Kept.refl w1).drew
  go_region
  have K2 := K0.trans k2
  have HCL := Lib.hid (cloneR_any A n c l _ (h.kept K2) (by omega))
  go_wp2_with fail
  refine HCL.out.mono ?_
  rintro e w3 ⟨VA, VC, rfl, hS, k3⟩
  go_wp2_with fail
  go_ret
  exact ⟨VA, VC, by rw [HLL.out]; rfl, by rw [HLL.out]; exact hS, K2.trans k3⟩

set_option maxHeartbeats 4000000 in
theorem value_ends (w : World) (ci cd cq ce cl : Int) (ct cr : Bool) (A : Option Addr) (n c : Nat) (l : List Int) (h : Sl w 1 A n c (l.map (Value.int .i32))) (hn : n ≤ 60) (h2 : 2 ≤ n) (hxy : l[0]? ≠ l[n - 1]?) :
    Calls Try.prog 21 #[.agg #[.int .i64 ci, .int .i64 cd, .int .i64 cq, .int .i64 ce, .int .i64 cl, .bool ct, .bool cr], .slice A n c] w fun e w' => RunesOf l w e w' := by
  have HLL := Lib.hid h.llen1
  obtain ⟨m, hm⟩ : ∃ m, n - 1 = m := ⟨_, rfl⟩
  obtain ⟨b, o, x, y, hA, hx, hy, cx, cy⟩ := two_ends h h2
  rw [hx, hy] at hxy
  have xne : ¬ x = y := fun e => hxy (by rw [e])
  have xy : (x != y) = true := by simpa using xne
  clear hxy hx hy
  rw [hm] at cy
  have B0 := Blk.new w #[.int .i64 ci, .int .i64 cd, .int .i64 cq, .int .i64 ce, .int .i64 cl, .bool ct, .bool cr] 23
  have K0 := (Kept.refl w).alloc (.cells #[.int .i64 ci, .int .i64 cd, .int .i64 cq, .int .i64 ce, .int .i64 cl, .bool ct, .bool cr] 23)
  have hm1 : IntKind.i64.wrap ((n : Int) - 1) = (m : Int) := by
    rw [show (n : Int) - 1 = (m : Int) by omega]
    exact IntWalk.i64_in _ (by omega)
  have l1 : ¬ (m : Int) < 1 := by omega
  have l2 : (m : Int) < n := by omega
  have l3 : (0 : Int) ≤ m := by omega
  have l4 : 0 < n := by omega
  have l5 : m < n := by omega
  subst hA
  go_enter Try.func21, Try.ntmps21
  go_upto_region 2 with fail
  generalize w.alloc (.cells #[.int .i64 ci, .int .i64 cd, .int .i64 cq, .int .i64 ce, .int .i64 cl, .bool ct, .bool cr] 23) = w1 at K0 B0 ⊢
  obtain ⟨g, hg⟩ : ∃ g, w.heap.size = g := ⟨_, rfl⟩
  rw [hg] at B0 ⊢
  clear hg
  have k2 : Kept w1 w1.drew := (Kept.refl w1).drew
  have qx := K0.cell cx
  have qy := K0.cell cy
  clear B0 cx cy
  go_region
  have K2 := K0.trans k2
  have HCL := Lib.hid (cloneR_any _ n c l _ (h.kept K2) (by omega))
  clear qx qy
  go_wp2_with fail
  refine HCL.out.mono ?_
  rintro e w3 ⟨VA, VC, rfl, hS, k3⟩
  go_wp2_with fail
  go_ret
  exact ⟨VA, VC, by rw [HLL.out]; rfl, by rw [HLL.out]; exact hS, K2.trans k3⟩

set_option maxHeartbeats 4000000 in
theorem value_none (w : World) (ci cd cq ce cl : Int) (ct cr : Bool) (A : Option Addr) (n c : Nat) (l : List Int) (h : Sl w 1 A n c (l.map (Value.int .i32))) (hn : n ≤ 60) (h2 : 2 ≤ n) (x : Int) (hx : l[0]? = some x) (hy : l[n - 1]? = some x) (x34 : x ≠ 34) (x39 : x ≠ 39) :
    Calls Try.prog 21 #[.agg #[.int .i64 ci, .int .i64 cd, .int .i64 cq, .int .i64 ce, .int .i64 cl, .bool ct, .bool cr], .slice A n c] w fun e w' => RunesOf l w e w' := by
  have HLL := Lib.hid h.llen1
  obtain ⟨m, hm⟩ : ∃ m, n - 1 = m := ⟨_, rfl⟩
  obtain ⟨b, o, x', y, hA, hx', hy', cx, cy⟩ := two_ends h h2
  rw [hx] at hx'
  rw [hy] at hy'
  obtain rfl := Option.some.inj hx'
  obtain rfl := Option.some.inj hy'
  have n34 : ¬ x = 34 := x34
  have n39 : ¬ x = 39 := x39
  clear x34 x39 hx hy hx' hy'
  rw [hm] at cy
  have B0 := Blk.new w #[.int .i64 ci, .int .i64 cd, .int .i64 cq, .int .i64 ce, .int .i64 cl, .bool ct, .bool cr] 23
  have K0 := (Kept.refl w).alloc (.cells #[.int .i64 ci, .int .i64 cd, .int .i64 cq, .int .i64 ce, .int .i64 cl, .bool ct, .bool cr] 23)
  have hm1 : IntKind.i64.wrap ((n : Int) - 1) = (m : Int) := by
    rw [show (n : Int) - 1 = (m : Int) by omega]
    exact IntWalk.i64_in _ (by omega)
  have l1 : ¬ (m : Int) < 1 := by omega
  have l2 : (m : Int) < n := by omega
  have l3 : (0 : Int) ≤ m := by omega
  have l4 : 0 < n := by omega
  have l5 : m < n := by omega
  subst hA
  go_enter Try.func21, Try.ntmps21
  go_upto_region 2 with fail
  generalize w.alloc (.cells #[.int .i64 ci, .int .i64 cd, .int .i64 cq, .int .i64 ce, .int .i64 cl, .bool ct, .bool cr] 23) = w1 at K0 B0 ⊢
  obtain ⟨g, hg⟩ : ∃ g, w.heap.size = g := ⟨_, rfl⟩
  rw [hg] at B0 ⊢
  clear hg
  have qx : ∀ p : KeptFrom w1, p.x.cell? ⟨b, o, none⟩ = some (.int .i32 x) := fun p => (K0.trans p.k).cell cx
  have qy : ∀ p : KeptFrom w1, p.x.cell? ⟨b, o + m, none⟩ = some (.int .i32 x) := fun p => (K0.trans p.k).cell cy
  clear B0
  refine wp_region_kept (by kernel_rfl) (by kernel_rfl) ?_
  repeat (quiet_step (fail))
  refine wpQuiet_nil ?_
  rintro _ ⟨⟨w2, k2⟩, rfl⟩
  have K2 := K0.trans k2
  have HCL := Lib.hid (cloneR_any _ n c l _ (h.kept K2) (by omega))
  clear qx qy
  go_wp2_with fail
  refine HCL.out.mono ?_
  rintro e w3 ⟨VA, VC, rfl, hS, k3⟩
  go_wp2_with fail
  go_ret
  exact ⟨VA, VC, by rw [HLL.out]; rfl, by rw [HLL.out]; exact hS, K2.trans k3⟩

set_option maxHeartbeats 4000000 in
theorem value_keep034 (w : World) (ci cd cq ce cl : Int) (ct cr : Bool) (A : Option Addr) (n c : Nat) (l : List Int) (h : Sl w 1 A n c (l.map (Value.int .i32))) (hn : n ≤ 60) (h2 : 2 ≤ n) (hx : l[0]? = some 34) (hy : l[n - 1]? = some 34) (hq : (clampF ⟨ci, cd, cq, ce, cl, ct, cr⟩).q = 0) :
    Calls Try.prog 21 #[.agg #[.int .i64 ci, .int .i64 cd, .int .i64 cq, .int .i64 ce, .int .i64 cl, .bool ct, .bool cr], .slice A n c] w fun e w' => RunesOf l w e w' := by
  have HLL := Lib.hid h.llen1
  obtain ⟨m, hm⟩ : ∃ m, n - 1 = m := ⟨_, rfl⟩
  obtain ⟨b, o, x', y, hA, hx', hy', cx, cy⟩ := two_ends h h2
  rw [hx] at hx'
  rw [hy] at hy'
  obtain rfl := Option.some.inj hx'
  obtain rfl := Option.some.inj hy'
  clear hx hy hx' hy'
  rw [hm] at cy
  have hc := fun w => clamp_any ⟨ci, cd, cq, ce, cl, ct, cr⟩ w
  obtain ⟨c', hc'⟩ : ∃ c', clampF ⟨ci, cd, cq, ce, cl, ct, cr⟩ = c' := ⟨_, rfl⟩
  rw [hc'] at hc hq
  clear hc'
  obtain ⟨di, dd, dq, de, dl, dt, dr⟩ := c'
  dsimp only at hq
  subst hq
  have B0 := Blk.new w #[.int .i64 ci, .int .i64 cd, .int .i64 cq, .int .i64 ce, .int .i64 cl, .bool ct, .bool cr] 23
  have K0 := (Kept.refl w).alloc (.cells #[.int .i64 ci, .int .i64 cd, .int .i64 cq, .int .i64 ce, .int .i64 cl, .bool ct, .bool cr] 23)
  have hm1 : IntKind.i64.wrap ((n : Int) - 1) = (m : Int) := by
    rw [show (n : Int) - 1 = (m : Int) by omega]
    exact IntWalk.i64_in _ (by omega)
  have l1 : ¬ (m : Int) < 1 := by omega
  have l2 : (m : Int) < n := by omega
  have l3 : (0 : Int) ≤ m := by omega
  have l4 : 0 < n := by omega
  have l5 : m < n := by omega
  subst hA
  go_enter Try.func21, Try.ntmps21
  go_upto_region 2 with fail
  generalize w.alloc (.cells #[.int .i64 ci, .int .i64 cd, .int .i64 cq, .int .i64 ce, .int .i64 cl, .bool ct, .bool cr] 23) = w1 at K0 B0 ⊢
  obtain ⟨g, hg⟩ : ∃ g, w.heap.size = g := ⟨_, rfl⟩
  rw [hg] at B0 ⊢
  clear hg
  have qx : ∀ p : KeptFrom w1, p.x.cell? ⟨b, o, none⟩ = some (.int .i32 34) := fun p => (K0.trans p.k).cell cx
  have qy : ∀ p : KeptFrom w1, p.x.cell? ⟨b, o + m, none⟩ = some (.int .i32 34) := fun p => (K0.trans p.k).cell cy
  have bc := fun (p : KeptFrom w1) => (B0.kept p.k).cell
  have q0 : ∀ p : KeptFrom w1, p.x.cell? ⟨g, 0, none⟩ = some (.int .i64 ci) := fun p => bc p 0
  have q1 : ∀ p : KeptFrom w1, p.x.cell? ⟨g, 1, none⟩ = some (.int .i64 cd) := fun p => bc p 1
  have q2 : ∀ p : KeptFrom w1, p.x.cell? ⟨g, 2, none⟩ = some (.int .i64 cq) := fun p => bc p 2
  have q3 : ∀ p : KeptFrom w1, p.x.cell? ⟨g, 3, none⟩ = some (.int .i64 ce) := fun p => bc p 3
  have q4 : ∀ p : KeptFrom w1, p.x.cell? ⟨g, 4, none⟩ = some (.int .i64 cl) := fun p => bc p 4
  have q5 : ∀ p : KeptFrom w1, p.x.cell? ⟨g, 5, none⟩ = some (.bool ct) := fun p => bc p 5
  have q6 : ∀ p : KeptFrom w1, p.x.cell? ⟨g, 6, none⟩ = some (.bool cr) := fun p => bc p 6
  clear bc
  have HC : Hid (∀ p : KeptFrom w1, Calls Try.prog 11 #[.agg #[.int .i64 ci, .int .i64 cd, .int .i64 cq, .int .i64 ce, .int .i64 cl, .bool ct, .bool cr]] p.x fun e w' => e = .returned (.agg #[.int .i64 di, .int .i64 dd, .int .i64 0, .int .i64 de, .int .i64 dl, .bool dt, .bool dr]) ∧ Kept p.x w') := fun p => hc p.x
  have HA : Hid (∀ p : KeptFrom w1, Calls Try.prog 36 #[.agg #[.int .i64 di, .int .i64 dd, .int .i64 0, .int .i64 de, .int .i64 dl, .bool dt, .bool dr], .int .i32 34] p.x fun e w' => e = .returned (.int .i32 34) ∧ Kept p.x w') := fun p => asked_any ⟨di, dd, 0, de, dl, dt, dr⟩ 34 p.x
  clear B0 hc
  refine wp_region_kept (by kernel_rfl) (by kernel_rfl) ?_
  repeat (quiet_step (first | (go_at_call 11; with_reducible exact Calls.kept_of (HC.out _)) | (go_at_call 36; with_reducible exact Calls.kept_of (HA.out _)) | fail))
  refine wpQuiet_nil ?_
  rintro _ ⟨⟨w2, k2⟩, rfl⟩
  have K2 := K0.trans k2
  have HCL := Lib.hid (cloneR_any _ n c l _ (h.kept K2) (by omega))
  clear qx qy q0 q1 q2 q3 q4 q5 q6 HC HA
  go_wp2_with fail
  refine HCL.out.mono ?_
  rintro e w3 ⟨VA, VC, rfl, hS, k3⟩
  go_wp2_with fail
  go_ret
  exact ⟨VA, VC, by rw [HLL.out]; rfl, by rw [HLL.out]; exact hS, K2.trans k3⟩

set_option maxHeartbeats 4000000 in
theorem value_keep039 (w : World) (ci cd cq ce cl : Int) (ct cr : Bool) (A : Option Addr) (n c : Nat) (l : List Int) (h : Sl w 1 A n c (l.map (Value.int .i32))) (hn : n ≤ 60) (h2 : 2 ≤ n) (hx : l[0]? = some 39) (hy : l[n - 1]? = some 39) (hq : (clampF ⟨ci, cd, cq, ce, cl, ct, cr⟩).q = 0) :
    Calls Try.prog 21 #[.agg #[.int .i64 ci, .int .i64 cd, .int .i64 cq, .int .i64 ce, .int .i64 cl, .bool ct, .bool cr], .slice A n c] w fun e w' => RunesOf l w e w' := by
  have HLL := Lib.hid h.llen1
  obtain ⟨m, hm⟩ : ∃ m, n - 1 = m := ⟨_, rfl⟩
  obtain ⟨b, o, x', y, hA, hx', hy', cx, cy⟩ := two_ends h h2
  rw [hx] at hx'
  rw [hy] at hy'
  obtain rfl := Option.some.inj hx'
  obtain rfl := Option.some.inj hy'
  clear hx hy hx' hy'
  rw [hm] at cy
  have hc := fun w => clamp_any ⟨ci, cd, cq, ce, cl, ct, cr⟩ w
  obtain ⟨c', hc'⟩ : ∃ c', clampF ⟨ci, cd, cq, ce, cl, ct, cr⟩ = c' := ⟨_, rfl⟩
  rw [hc'] at hc hq
  clear hc'
  obtain ⟨di, dd, dq, de, dl, dt, dr⟩ := c'
  dsimp only at hq
  subst hq
  have B0 := Blk.new w #[.int .i64 ci, .int .i64 cd, .int .i64 cq, .int .i64 ce, .int .i64 cl, .bool ct, .bool cr] 23
  have K0 := (Kept.refl w).alloc (.cells #[.int .i64 ci, .int .i64 cd, .int .i64 cq, .int .i64 ce, .int .i64 cl, .bool ct, .bool cr] 23)
  have hm1 : IntKind.i64.wrap ((n : Int) - 1) = (m : Int) := by
    rw [show (n : Int) - 1 = (m : Int) by omega]
    exact IntWalk.i64_in _ (by omega)
  have l1 : ¬ (m : Int) < 1 := by omega
  have l2 : (m : Int) < n := by omega
  have l3 : (0 : Int) ≤ m := by omega
  have l4 : 0 < n := by omega
  have l5 : m < n := by omega
  subst hA
  go_enter Try.func21, Try.ntmps21
  go_upto_region 2 with fail
  generalize w.alloc (.cells #[.int .i64 ci, .int .i64 cd, .int .i64 cq, .int .i64 ce, .int .i64 cl, .bool ct, .bool cr] 23) = w1 at K0 B0 ⊢
  obtain ⟨g, hg⟩ : ∃ g, w.heap.size = g := ⟨_, rfl⟩
  rw [hg] at B0 ⊢
  clear hg
  have qx : ∀ p : KeptFrom w1, p.x.cell? ⟨b, o, none⟩ = some (.int .i32 39) := fun p => (K0.trans p.k).cell cx
  have qy : ∀ p : KeptFrom w1, p.x.cell? ⟨b, o + m, none⟩ = some (.int .i32 39) := fun p => (K0.trans p.k).cell cy
  have bc := fun (p : KeptFrom w1) => (B0.kept p.k).cell
  have q0 : ∀ p : KeptFrom w1, p.x.cell? ⟨g, 0, none⟩ = some (.int .i64 ci) := fun p => bc p 0
  have q1 : ∀ p : KeptFrom w1, p.x.cell? ⟨g, 1, none⟩ = some (.int .i64 cd) := fun p => bc p 1
  have q2 : ∀ p : KeptFrom w1, p.x.cell? ⟨g, 2, none⟩ = some (.int .i64 cq) := fun p => bc p 2
  have q3 : ∀ p : KeptFrom w1, p.x.cell? ⟨g, 3, none⟩ = some (.int .i64 ce) := fun p => bc p 3
  have q4 : ∀ p : KeptFrom w1, p.x.cell? ⟨g, 4, none⟩ = some (.int .i64 cl) := fun p => bc p 4
  have q5 : ∀ p : KeptFrom w1, p.x.cell? ⟨g, 5, none⟩ = some (.bool ct) := fun p => bc p 5
  have q6 : ∀ p : KeptFrom w1, p.x.cell? ⟨g, 6, none⟩ = some (.bool cr) := fun p => bc p 6
  clear bc
  have HC : Hid (∀ p : KeptFrom w1, Calls Try.prog 11 #[.agg #[.int .i64 ci, .int .i64 cd, .int .i64 cq, .int .i64 ce, .int .i64 cl, .bool ct, .bool cr]] p.x fun e w' => e = .returned (.agg #[.int .i64 di, .int .i64 dd, .int .i64 0, .int .i64 de, .int .i64 dl, .bool dt, .bool dr]) ∧ Kept p.x w') := fun p => hc p.x
  have HA : Hid (∀ p : KeptFrom w1, Calls Try.prog 36 #[.agg #[.int .i64 di, .int .i64 dd, .int .i64 0, .int .i64 de, .int .i64 dl, .bool dt, .bool dr], .int .i32 39] p.x fun e w' => e = .returned (.int .i32 39) ∧ Kept p.x w') := fun p => asked_any ⟨di, dd, 0, de, dl, dt, dr⟩ 39 p.x
  clear B0 hc
  refine wp_region_kept (by kernel_rfl) (by kernel_rfl) ?_
  repeat (quiet_step (first | (go_at_call 11; with_reducible exact Calls.kept_of (HC.out _)) | (go_at_call 36; with_reducible exact Calls.kept_of (HA.out _)) | fail))
  refine wpQuiet_nil ?_
  rintro _ ⟨⟨w2, k2⟩, rfl⟩
  have K2 := K0.trans k2
  have HCL := Lib.hid (cloneR_any _ n c l _ (h.kept K2) (by omega))
  clear qx qy q0 q1 q2 q3 q4 q5 q6 HC HA
  go_wp2_with fail
  refine HCL.out.mono ?_
  rintro e w3 ⟨VA, VC, rfl, hS, k3⟩
  go_wp2_with fail
  go_ret
  exact ⟨VA, VC, by rw [HLL.out]; rfl, by rw [HLL.out]; exact hS, K2.trans k3⟩

set_option maxHeartbeats 4000000 in
theorem value_keep134 (w : World) (ci cd cq ce cl : Int) (ct cr : Bool) (A : Option Addr) (n c : Nat) (l : List Int) (h : Sl w 1 A n c (l.map (Value.int .i32))) (hn : n ≤ 60) (h2 : 2 ≤ n) (hx : l[0]? = some 34) (hy : l[n - 1]? = some 34) (hq : (clampF ⟨ci, cd, cq, ce, cl, ct, cr⟩).q = 1) :
    Calls Try.prog 21 #[.agg #[.int .i64 ci, .int .i64 cd, .int .i64 cq, .int .i64 ce, .int .i64 cl, .bool ct, .bool cr], .slice A n c] w fun e w' => RunesOf l w e w' := by
  have HLL := Lib.hid h.llen1
  obtain ⟨m, hm⟩ : ∃ m, n - 1 = m := ⟨_, rfl⟩
  obtain ⟨b, o, x', y, hA, hx', hy', cx, cy⟩ := two_ends h h2
  rw [hx] at hx'
  rw [hy] at hy'
  obtain rfl := Option.some.inj hx'
  obtain rfl := Option.some.inj hy'
  clear hx hy hx' hy'
  rw [hm] at cy
  have hc := fun w => clamp_any ⟨ci, cd, cq, ce, cl, ct, cr⟩ w
  obtain ⟨c', hc'⟩ : ∃ c', clampF ⟨ci, cd, cq, ce, cl, ct, cr⟩ = c' := ⟨_, rfl⟩
  rw [hc'] at hc hq
  clear hc'
  obtain ⟨di, dd, dq, de, dl, dt, dr⟩ := c'
  dsimp only at hq
  subst hq
  have B0 := Blk.new w #[.int .i64 ci, .int .i64 cd, .int .i64 cq, .int .i64 ce, .int .i64 cl, .bool ct, .bool cr] 23
  have K0 := (Kept.refl w).alloc (.cells #[.int .i64 ci, .int .i64 cd, .int .i64 cq, .int .i64 ce, .int .i64 cl, .bool ct, .bool cr] 23)
  have hm1 : IntKind.i64.wrap ((n : Int) - 1) = (m : Int) := by
    rw [show (n : Int) - 1 = (m : Int) by omega]
    exact IntWalk.i64_in _ (by omega)
  have l1 : ¬ (m : Int) < 1 := by omega
  have l2 : (m : Int) < n := by omega
  have l3 : (0 : Int) ≤ m := by omega
  have l4 : 0 < n := by omega
  have l5 : m < n := by omega
  subst hA
  go_enter Try.func21, Try.ntmps21
  go_upto_region 2 with fail
  generalize w.alloc (.cells #[.int .i64 ci, .int .i64 cd, .int .i64 cq, .int .i64 ce, .int .i64 cl, .bool ct, .bool cr] 23) = w1 at K0 B0 ⊢
  obtain ⟨g, hg⟩ : ∃ g, w.heap.size = g := ⟨_, rfl⟩
  rw [hg] at B0 ⊢
  clear hg
  have qx : ∀ p : KeptFrom w1, p.x.cell? ⟨b, o, none⟩ = some (.int .i32 34) := fun p => (K0.trans p.k).cell cx
  have qy : ∀ p : KeptFrom w1, p.x.cell? ⟨b, o + m, none⟩ = some (.int .i32 34) := fun p => (K0.trans p.k).cell cy
  have bc := fun (p : KeptFrom w1) => (B0.kept p.k).cell
  have q0 : ∀ p : KeptFrom w1, p.x.cell? ⟨g, 0, none⟩ = some (.int .i64 ci) := fun p => bc p 0
  have q1 : ∀ p : KeptFrom w1, p.x.cell? ⟨g, 1, none⟩ = some (.int .i64 cd) := fun p => bc p 1
  have q2 : ∀ p : KeptFrom w1, p.x.cell? ⟨g, 2, none⟩ = some (.int .i64 cq) := fun p => bc p 2
  have q3 : ∀ p : KeptFrom w1, p.x.cell? ⟨g, 3, none⟩ = some (.int .i64 ce) := fun p => bc p 3
  have q4 : ∀ p : KeptFrom w1, p.x.cell? ⟨g, 4, none⟩ = some (.int .i64 cl) := fun p => bc p 4
  have q5 : ∀ p : KeptFrom w1, p.x.cell? ⟨g, 5, none⟩ = some (.bool ct) := fun p => bc p 5
  have q6 : ∀ p : KeptFrom w1, p.x.cell? ⟨g, 6, none⟩ = some (.bool cr) := fun p => bc p 6
  clear bc
  have HC : Hid (∀ p : KeptFrom w1, Calls Try.prog 11 #[.agg #[.int .i64 ci, .int .i64 cd, .int .i64 cq, .int .i64 ce, .int .i64 cl, .bool ct, .bool cr]] p.x fun e w' => e = .returned (.agg #[.int .i64 di, .int .i64 dd, .int .i64 1, .int .i64 de, .int .i64 dl, .bool dt, .bool dr]) ∧ Kept p.x w') := fun p => hc p.x
  have HA : Hid (∀ p : KeptFrom w1, Calls Try.prog 36 #[.agg #[.int .i64 di, .int .i64 dd, .int .i64 1, .int .i64 de, .int .i64 dl, .bool dt, .bool dr], .int .i32 34] p.x fun e w' => e = .returned (.int .i32 34) ∧ Kept p.x w') := fun p => asked_any ⟨di, dd, 1, de, dl, dt, dr⟩ 34 p.x
  clear B0 hc
  refine wp_region_kept (by kernel_rfl) (by kernel_rfl) ?_
  repeat (quiet_step (first | (go_at_call 11; with_reducible exact Calls.kept_of (HC.out _)) | (go_at_call 36; with_reducible exact Calls.kept_of (HA.out _)) | fail))
  refine wpQuiet_nil ?_
  rintro _ ⟨⟨w2, k2⟩, rfl⟩
  have K2 := K0.trans k2
  have HCL := Lib.hid (cloneR_any _ n c l _ (h.kept K2) (by omega))
  clear qx qy q0 q1 q2 q3 q4 q5 q6 HC HA
  go_wp2_with fail
  refine HCL.out.mono ?_
  rintro e w3 ⟨VA, VC, rfl, hS, k3⟩
  go_wp2_with fail
  go_ret
  exact ⟨VA, VC, by rw [HLL.out]; rfl, by rw [HLL.out]; exact hS, K2.trans k3⟩

set_option maxHeartbeats 4000000 in
theorem value_keep239 (w : World) (ci cd cq ce cl : Int) (ct cr : Bool) (A : Option Addr) (n c : Nat) (l : List Int) (h : Sl w 1 A n c (l.map (Value.int .i32))) (hn : n ≤ 60) (h2 : 2 ≤ n) (hx : l[0]? = some 39) (hy : l[n - 1]? = some 39) (hq : (clampF ⟨ci, cd, cq, ce, cl, ct, cr⟩).q = 2) :
    Calls Try.prog 21 #[.agg #[.int .i64 ci, .int .i64 cd, .int .i64 cq, .int .i64 ce, .int .i64 cl, .bool ct, .bool cr], .slice A n c] w fun e w' => RunesOf l w e w' := by
  have HLL := Lib.hid h.llen1
  obtain ⟨m, hm⟩ : ∃ m, n - 1 = m := ⟨_, rfl⟩
  obtain ⟨b, o, x', y, hA, hx', hy', cx, cy⟩ := two_ends h h2
  rw [hx] at hx'
  rw [hy] at hy'
  obtain rfl := Option.some.inj hx'
  obtain rfl := Option.some.inj hy'
  clear hx hy hx' hy'
  rw [hm] at cy
  have hc := fun w => clamp_any ⟨ci, cd, cq, ce, cl, ct, cr⟩ w
  obtain ⟨c', hc'⟩ : ∃ c', clampF ⟨ci, cd, cq, ce, cl, ct, cr⟩ = c' := ⟨_, rfl⟩
  rw [hc'] at hc hq
  clear hc'
  obtain ⟨di, dd, dq, de, dl, dt, dr⟩ := c'
  dsimp only at hq
  subst hq
  have B0 := Blk.new w #[.int .i64 ci, .int .i64 cd, .int .i64 cq, .int .i64 ce, .int .i64 cl, .bool ct, .bool cr] 23
  have K0 := (Kept.refl w).alloc (.cells #[.int .i64 ci, .int .i64 cd, .int .i64 cq, .int .i64 ce, .int .i64 cl, .bool ct, .bool cr] 23)
  have hm1 : IntKind.i64.wrap ((n : Int) - 1) = (m : Int) := by
    rw [show (n : Int) - 1 = (m : Int) by omega]
    exact IntWalk.i64_in _ (by omega)
  have l1 : ¬ (m : Int) < 1 := by omega
  have l2 : (m : Int) < n := by omega
  have l3 : (0 : Int) ≤ m := by omega
  have l4 : 0 < n := by omega
  have l5 : m < n := by omega
  subst hA
  go_enter Try.func21, Try.ntmps21
  go_upto_region 2 with fail
  generalize w.alloc (.cells #[.int .i64 ci, .int .i64 cd, .int .i64 cq, .int .i64 ce, .int .i64 cl, .bool ct, .bool cr] 23) = w1 at K0 B0 ⊢
  obtain ⟨g, hg⟩ : ∃ g, w.heap.size = g := ⟨_, rfl⟩
  rw [hg] at B0 ⊢
  clear hg
  have qx : ∀ p : KeptFrom w1, p.x.cell? ⟨b, o, none⟩ = some (.int .i32 39) := fun p => (K0.trans p.k).cell cx
  have qy : ∀ p : KeptFrom w1, p.x.cell? ⟨b, o + m, none⟩ = some (.int .i32 39) := fun p => (K0.trans p.k).cell cy
  have bc := fun (p : KeptFrom w1) => (B0.kept p.k).cell
  have q0 : ∀ p : KeptFrom w1, p.x.cell? ⟨g, 0, none⟩ = some (.int .i64 ci) := fun p => bc p 0
  have q1 : ∀ p : KeptFrom w1, p.x.cell? ⟨g, 1, none⟩ = some (.int .i64 cd) := fun p => bc p 1
  have q2 : ∀ p : KeptFrom w1, p.x.cell? ⟨g, 2, none⟩ = some (.int .i64 cq) := fun p => bc p 2
  have q3 : ∀ p : KeptFrom w1, p.x.cell? ⟨g, 3, none⟩ = some (.int .i64 ce) := fun p => bc p 3
  have q4 : ∀ p : KeptFrom w1, p.x.cell? ⟨g, 4, none⟩ = some (.int .i64 cl) := fun p => bc p 4
  have q5 : ∀ p : KeptFrom w1, p.x.cell? ⟨g, 5, none⟩ = some (.bool ct) := fun p => bc p 5
  have q6 : ∀ p : KeptFrom w1, p.x.cell? ⟨g, 6, none⟩ = some (.bool cr) := fun p => bc p 6
  clear bc
  have HC : Hid (∀ p : KeptFrom w1, Calls Try.prog 11 #[.agg #[.int .i64 ci, .int .i64 cd, .int .i64 cq, .int .i64 ce, .int .i64 cl, .bool ct, .bool cr]] p.x fun e w' => e = .returned (.agg #[.int .i64 di, .int .i64 dd, .int .i64 2, .int .i64 de, .int .i64 dl, .bool dt, .bool dr]) ∧ Kept p.x w') := fun p => hc p.x
  have HA : Hid (∀ p : KeptFrom w1, Calls Try.prog 36 #[.agg #[.int .i64 di, .int .i64 dd, .int .i64 2, .int .i64 de, .int .i64 dl, .bool dt, .bool dr], .int .i32 39] p.x fun e w' => e = .returned (.int .i32 39) ∧ Kept p.x w') := fun p => asked_any ⟨di, dd, 2, de, dl, dt, dr⟩ 39 p.x
  clear B0 hc
  refine wp_region_kept (by kernel_rfl) (by kernel_rfl) ?_
  repeat (quiet_step (first | (go_at_call 11; with_reducible exact Calls.kept_of (HC.out _)) | (go_at_call 36; with_reducible exact Calls.kept_of (HA.out _)) | fail))
  refine wpQuiet_nil ?_
  rintro _ ⟨⟨w2, k2⟩, rfl⟩
  have K2 := K0.trans k2
  have HCL := Lib.hid (cloneR_any _ n c l _ (h.kept K2) (by omega))
  clear qx qy q0 q1 q2 q3 q4 q5 q6 HC HA
  go_wp2_with fail
  refine HCL.out.mono ?_
  rintro e w3 ⟨VA, VC, rfl, hS, k3⟩
  go_wp2_with fail
  go_ret
  exact ⟨VA, VC, by rw [HLL.out]; rfl, by rw [HLL.out]; exact hS, K2.trans k3⟩

set_option maxRecDepth 8000 in
set_option maxHeartbeats 8000000 in
theorem value_turn34 (w : World) (ci cd cq ce cl : Int) (ct cr : Bool) (A : Option Addr) (n c : Nat) (l : List Int) (h : Sl w 1 A n c (l.map (Value.int .i32))) (hn : n ≤ 60) (M : List Int) (hl : l = 39 :: (M ++ [39])) (hq : (clampF ⟨ci, cd, cq, ce, cl, ct, cr⟩).q = 1) :
    Calls Try.prog 21 #[.agg #[.int .i64 ci, .int .i64 cd, .int .i64 cq, .int .i64 ce, .int .i64 cl, .bool ct, .bool cr], .slice A n c] w fun e w' => RunesOf (34 :: (replF 34 [38, 113, 117, 111, 116, 59] M ++ [34])) w e w' := by
  have hll := h.llen1
  have hMl : M.length + 2 = n := by
    rw [hl] at hll
    simpa using hll
  have h2 : 2 ≤ n := by omega
  have hx : l[0]? = some 39 := by rw [hl]; rfl
  have hy : l[n - 1]? = some 39 := by
    rw [hl, show n - 1 = M.length + 1 by omega, List.getElem?_cons_succ, List.getElem?_append_right (Nat.le_refl _), Nat.sub_self]
    rfl
  have hcm : (l.drop 1).take (n - 1 - 1) = M := by
    rw [hl, List.drop_succ_cons, List.drop_zero, show n - 1 - 1 = M.length by omega, List.take_left]
  obtain ⟨m, hm⟩ : ∃ m, n - 1 = m := ⟨_, rfl⟩
  obtain ⟨b, o, x', y, hA, hx', hy', cx, cy⟩ := two_ends h h2
  rw [hx] at hx'
  rw [hy] at hy'
  obtain rfl := Option.some.inj hx'
  obtain rfl := Option.some.inj hy'
  have hcut0 := h.cut1 (i := 1) (m := n - 1) (by omega) (by omega)
  rw [hcm] at hcut0
  clear hx hy hx' hy' hcm hll hl
  rw [hm] at cy hcut0
  obtain ⟨K, hK⟩ : ∃ K, m - 1 = K := ⟨_, rfl⟩
  obtain ⟨C, hC⟩ : ∃ C, cutA A c 1 1 = C := ⟨_, rfl⟩
  rw [hK, hC] at hcut0
  have hncap := h.cap
  have hcut : ∀ wv : World, (Instr.slice 36 (.slice A n c) (some (.int .i64 1)) (some (.int .i64 (m : Int))) none).run Try.prog wv = .ok (.slice C K (c - 1)) wv := by
    intro wv
    have h1 := run_cut_lh appT_run A n c 1 m (by omega) (by omega) wv
    rw [hC, hK] at h1
    exact h1
  have HM := Lib.hid hcut0
  have HML := Lib.hid (show M.length = K by omega)
  have lK : K ≤ 60 := by omega
  clear hC hK hcut0 hMl
  have hc := fun w => clamp_any ⟨ci, cd, cq, ce, cl, ct, cr⟩ w
  obtain ⟨c', hc'⟩ : ∃ c', clampF ⟨ci, cd, cq, ce, cl, ct, cr⟩ = c' := ⟨_, rfl⟩
  rw [hc'] at hc hq
  clear hc'
  obtain ⟨di, dd, dq, de, dl, dt, dr⟩ := c'
  dsimp only at hq
  subst hq
  have B0 := Blk.new w #[.int .i64 ci, .int .i64 cd, .int .i64 cq, .int .i64 ce, .int .i64 cl, .bool ct, .bool cr] 23
  have K0 := (Kept.refl w).alloc (.cells #[.int .i64 ci, .int .i64 cd, .int .i64 cq, .int .i64 ce, .int .i64 cl, .bool ct, .bool cr] 23)
  have hm1 : IntKind.i64.wrap ((n : Int) - 1) = (m : Int) := by
    rw [show (n : Int) - 1 = (m : Int) by omega]
    exact IntWalk.i64_in _ (by omega)
  have l1 : ¬ (m : Int) < 1 := by omega
  have l2 : (m : Int) < n := by omega
  have l3 : (0 : Int) ≤ m := by omega
  have l4 : 0 < n := by omega
  have l5 : m < n := by omega
  have l7 : (1 : Int) ≤ m := by omega
  have l8 : (m : Int) ≤ c := by omega
  subst hA
  go_enter Try.func21, Try.ntmps21
  go_upto_region 2 with fail
  generalize w.alloc (.cells #[.int .i64 ci, .int .i64 cd, .int .i64 cq, .int .i64 ce, .int .i64 cl, .bool ct, .bool cr] 23) = w1 at K0 B0 ⊢
  obtain ⟨g, hg⟩ : ∃ g, w.heap.size = g := ⟨_, rfl⟩
  rw [hg] at B0 ⊢
  clear hg
  have qx : ∀ p : KeptFrom w1, p.x.cell? ⟨b, o, none⟩ = some (.int .i32 39) := fun p => (K0.trans p.k).cell cx
  have qy : ∀ p : KeptFrom w1, p.x.cell? ⟨b, o + m, none⟩ = some (.int .i32 39) := fun p => (K0.trans p.k).cell cy
  have bc := fun (p : KeptFrom w1) => (B0.kept p.k).cell
  have q0 : ∀ p : KeptFrom w1, p.x.cell? ⟨g, 0, none⟩ = some (.int .i64 ci) := fun p => bc p 0
  have q1 : ∀ p : KeptFrom w1, p.x.cell? ⟨g, 1, none⟩ = some (.int .i64 cd) := fun p => bc p 1
  have q2 : ∀ p : KeptFrom w1, p.x.cell? ⟨g, 2, none⟩ = some (.int .i64 cq) := fun p => bc p 2
  have q3 : ∀ p : KeptFrom w1, p.x.cell? ⟨g, 3, none⟩ = some (.int .i64 ce) := fun p => bc p 3
  have q4 : ∀ p : KeptFrom w1, p.x.cell? ⟨g, 4, none⟩ = some (.int .i64 cl) := fun p => bc p 4
  have q5 : ∀ p : KeptFrom w1, p.x.cell? ⟨g, 5, none⟩ = some (.bool ct) := fun p => bc p 5
  have q6 : ∀ p : KeptFrom w1, p.x.cell? ⟨g, 6, none⟩ = some (.bool cr) := fun p => bc p 6
  clear bc
  have HC : Hid (∀ p : KeptFrom w1, Calls Try.prog 11 #[.agg #[.int .i64 ci, .int .i64 cd, .int .i64 cq, .int .i64 ce, .int .i64 cl, .bool ct, .bool cr]] p.x fun e w' => e = .returned (.agg #[.int .i64 di, .int .i64 dd, .int .i64 1, .int .i64 de, .int .i64 dl, .bool dt, .bool dr]) ∧ Kept p.x w') := fun p => hc p.x
  have HA : Hid (∀ p : KeptFrom w1, Calls Try.prog 36 #[.agg #[.int .i64 di, .int .i64 dd, .int .i64 1, .int .i64 de, .int .i64 dl, .bool dt, .bool dr], .int .i32 39] p.x fun e w' => e = .returned (.int .i32 34) ∧ Kept p.x w') := fun p => asked_any ⟨di, dd, 1, de, dl, dt, dr⟩ 39 p.x
  refine wp_region_kept (by kernel_rfl) (by kernel_rfl) ?_
  repeat (quiet_step (first | (go_at_call 11; with_reducible exact Calls.kept_of (HC.out _)) | (go_at_call 36; with_reducible exact Calls.kept_of (HA.out _)) | fail))
  refine wpQuiet_nil ?_
  rintro w2 ⟨p, hp⟩
  have k2 : Kept w1 w2 := by
    rw [hp]
    exact p.k
  clear hp p
  have K2 := K0.trans k2
  have B2 := B0.kept k2
  clear qx qy q0 q1 q2 q3 q4 q5 q6 HC HA
  go_upto_region 4 with fail
  have qx : ∀ p : KeptFrom w2, p.x.cell? ⟨b, o, none⟩ = some (.int .i32 39) := fun p => (K2.trans p.k).cell cx
  have qy : ∀ p : KeptFrom w2, p.x.cell? ⟨b, o + m, none⟩ = some (.int .i32 39) := fun p => (K2.trans p.k).cell cy
  have bc := fun (p : KeptFrom w2) => (B2.kept p.k).cell
  have q0 : ∀ p : KeptFrom w2, p.x.cell? ⟨g, 0, none⟩ = some (.int .i64 ci) := fun p => bc p 0
  have q1 : ∀ p : KeptFrom w2, p.x.cell? ⟨g, 1, none⟩ = some (.int .i64 cd) := fun p => bc p 1
  have q2 : ∀ p : KeptFrom w2, p.x.cell? ⟨g, 2, none⟩ = some (.int .i64 cq) := fun p => bc p 2
  have q3 : ∀ p : KeptFrom w2, p.x.cell? ⟨g, 3, none⟩ = some (.int .i64 ce) := fun p => bc p 3
  have q4 : ∀ p : KeptFrom w2, p.x.cell? ⟨g, 4, none⟩ = some (.int .i64 cl) := fun p => bc p 4
  have q5 : ∀ p : KeptFrom w2, p.x.cell? ⟨g, 5, none⟩ = some (.bool ct) := fun p => bc p 5
  have q6 : ∀ p : KeptFrom w2, p.x.cell? ⟨g, 6, none⟩ = some (.bool cr) := fun p => bc p 6
  clear bc
  have HC2 : Hid (∀ p : KeptFrom w2, Calls Try.prog 11 #[.agg #[.int .i64 ci, .int .i64 cd, .int .i64 cq, .int .i64 ce, .int .i64 cl, .bool ct, .bool cr]] p.x fun e w' => e = .returned (.agg #[.int .i64 di, .int .i64 dd, .int .i64 1, .int .i64 de, .int .i64 dl, .bool dt, .bool dr]) ∧ Kept p.x w') := fun p => hc p.x
  have HA2 : Hid (∀ p : KeptFrom w2, Calls Try.prog 36 #[.agg #[.int .i64 di, .int .i64 dd, .int .i64 1, .int .i64 de, .int .i64 dl, .bool dt, .bool dr], .int .i32 39] p.x fun e w' => e = .returned (.int .i32 34) ∧ Kept p.x w') := fun p => asked_any ⟨di, dd, 1, de, dl, dt, dr⟩ 39 p.x
  refine wp_region_kept (by kernel_rfl) (by kernel_rfl) ?_
  repeat (quiet_step (first | (go_at_call 11; with_reducible exact Calls.kept_of (HC2.out _)) | (go_at_call 36; with_reducible exact Calls.kept_of (HA2.out _)) | fail))
  refine wpQuiet_nil ?_
  rintro w3 ⟨p, hp⟩
  have k3 : Kept w2 w3 := by
    rw [hp]
    exact p.k
  clear hp p
  have K3 := K2.trans k3
  clear qx qy q0 q1 q2 q3 q4 q5 q6 HC2 HA2 hc B0 B2 K0 K2 k2 k3 cx cy
  go_upto_region 8 with fail
  generalize hS : ({ data := #[38, 113, 117, 111, 116, 59] } : ByteArray) = S
  have hsz : S.size = 6 := by rw [← hS]; rfl
  have hasc : ∀ i (h : i < S.size), (S[i]'h).toNat < 128 := by
    intro i h
    have : ∀ b ∈ S.data.toList, b.toNat < 128 := by rw [← hS]; decide
    exact this _ (List.getElem_mem (h := h))
  have hfin : bytesI S = [38, 113, 117, 111, 116, 59] := by rw [← hS]; rfl
  clear hS
  have HASC := Lib.hid hasc
  have HFIN := Lib.hid hfin
  clear hasc hfin
  go_upto_region 9 with fail
  have own0 : (w3.alloc (.cells #[.int .i32 34] 21)).ownsRow w.heap.size 21 1 (.slice (some ⟨w3.heap.size, 0, none⟩) 1 1) 1 ([.int .i32 34]) := own_lit (by rfl) (by omega) K3.size
  have K4 : Kept w (w3.alloc (.cells #[.int .i32 34] 21)) := K3.alloc _
  generalize w3.alloc (.cells #[.int .i32 34] 21) = w4 at own0 K4 ⊢
  have HO := Lib.hid own0
  clear own0
  go_wp2_with fail
  go_loopw [8, 68] (fun v i wr => ∃ (k N : Nat), k ≤ K ∧ i = .int .i64 k ∧ N ≤ 1 + 6 * k ∧ wr.ownsRow w.heap.size 21 1 v N ((34 :: replF 34 [38, 113, 117, 111, 116, 59] (M.take k)).map (Value.int .i32)) ∧ Kept w wr) (fun _ i _ => K - (intOf i).toNat)
  case atStart => exact ⟨0, 1, Nat.zero_le _, rfl, by omega, HO.out, K4⟩
  case round =>
    obtain ⟨k, N, hk, rfl, hN, hown, hkept⟩ := hrel
    by_cases hlt : k < K
    · obtain ⟨pb, po, y, rfl, hy, cy, hyb⟩ := (HM.out.kept hkept).oneb hlt
      have HY := Lib.hid hy
      have lk : (k : Int) < K := by omega
      clear hy
      by_cases hyq : y = 34
      · have HR : Hid (replF 34 [38, 113, 117, 111, 116, 59] (M.take (k + 1)) = replF 34 [38, 113, 117, 111, 116, 59] (M.take k) ++ [38, 113, 117, 111, 116, 59]) := by
          unfold Hid
          rw [List.take_add_one, HY.out, hyq]
          simp [replF, List.flatMap_append]
        subst hyq
        have hwr := hkept.size
        have HW := Lib.hid (show _ ∧ _ from ⟨hown, hkept⟩)
        go_wp2_with fail
        obtain ⟨it, hit0⟩ : ∃ it, wr.heap.size = it := ⟨_, rfl⟩
        obtain ⟨T, hT⟩ : ∃ T, replF 34 [38, 113, 117, 111, 116, 59] (M.take k) = T := ⟨_, rfl⟩
        rw [hT] at hown HR
        have hown2 := hown.alloc (.stringIter S 0)
        have hk2 := hkept.alloc (.stringIter S 0)
        have hi2 := World.iter_heap wr S 0
        have hWi : w.heap.size ≤ it := by rw [← hit0]; exact hwr
        rw [hit0] at hi2 ⊢
        have H6 := HFIN.out
        go_loopw [8] (fun v wx => ∃ (pos : Nat), pos ≤ S.size ∧ wx.heap[it]? = some (.stringIter S pos) ∧ wx.ownsRow w.heap.size 21 1 v (N + pos) (((34 :: T) ++ (bytesI S).take pos).map (Value.int .i32)) ∧ Kept w wx) (fun _ wx => S.size - wx.iterPos it)
        case atStart => exact ⟨0, Nat.zero_le _, hi2, by rw [List.take_zero, List.append_nil]; exact hown2, hk2⟩
        case round =>
          clear hown hkept hown2 hk2 hi2
          obtain ⟨pos, hps, hit, hown, hkept⟩ := hrel
          by_cases hp : pos < S.size
          · have h128 := HASC.out pos hp
            have hnext : ∀ ty, (Instr.next (.pointer (some ⟨it, 0, none⟩)) true ty).run Try.prog wr = _ := fun ty => Lib.run_next_ascii_at wr it S pos ty hit hp h128
            have hkI := Lib.iterAt_heap wr it S pos (pos + 1) hit
            have hownI := own_iterC hown hit (pos + 1)
            have hkp : Kept w (wr.iterAt it S (pos + 1)) := Lib.below_iterAt hkept hWi S (pos + 1)
            have hmu : wr.iterPos it = pos := iterPos_of hit
            have hsn := Lib.hid (bytesI_snoc hp)
            generalize wr.iterAt it S (pos + 1) = W1 at hnext hownI hkI hkp
            have hni := own_not_iterC hownI hkI
            have hNp : N + pos ≤ 1000 := by omega
            clear hown hit hkept
            go_wp2_with (at_builtin; refine wpList_push w (by rfl) _ _ (by rfl) appT_run (by rfl) hownI hkp (by rfl) ?_ ?_; (exact ⟨rfl, rfl, rfl, by omega⟩); intro v' w' hown' hk' hgr hob)
            have hlt1 : it < W1.heap.size := (Array.getElem?_eq_some_iff.1 hkI).1
            have hit2 : w'.heap[it]? = some (.stringIter S (pos + 1)) :=
              ((World.grownBy.block hgr it (by rw [World.size_alloc]; omega) (fun e => hni e.symm)).trans (Below.heap_alloc W1 _ _ hlt1)).trans hkI
            clear hownI hgr hob hnext hkp hkI hni
            go_roundw
            case rel => exact ⟨pos + 1, hp, hit2, by rw [hsn.out, ← List.append_assoc, List.map_append, ← Nat.add_assoc]; exact hown', hk'⟩
            case measure =>
              rw [hmu, iterPos_of hit2]
              omega
          · have hpe : pos = S.size := by omega
            have hnext : ∀ ty, (Instr.next (.pointer (some ⟨it, 0, none⟩)) true ty).run Try.prog wr = _ := fun ty => Lib.run_next_end_at wr it S pos ty hit hp
            rw [hpe, List.take_of_length_le (by rw [bytesI_len]; exact Nat.le_refl _), HFIN.out, hsz] at hown
            have HOW := Lib.hid hown
            clear hown hit
            go_wp2_with fail
            go_roundw
            case rel => exact ⟨k + 1, N + 6, hlt, by go_num, by omega, by rw [HR.out]; exact HOW.out, hkept⟩
            case measure =>
              simp [intOf]
              omega
      · have HR : Hid (replF 34 [38, 113, 117, 111, 116, 59] (M.take (k + 1)) = replF 34 [38, 113, 117, 111, 116, 59] (M.take k) ++ [y]) := by
          unfold Hid
          rw [List.take_add_one, HY.out]
          simp [replF, List.flatMap_append, hyq]
        have hyb' : (y != 34) = true := by simpa using hyq
        go_wp2_with (at_builtin; refine wpList_push w (by rfl) _ _ (by rfl) appT_run (by rfl) hown hkept (by rfl) ?_ ?_; (exact ⟨rfl, rfl, rfl, by omega⟩); intro v' w' hown' hk' _ _)
        go_roundw
        case rel => exact ⟨k + 1, N + 1, hlt, by go_num, by omega, by rw [HR.out, ← List.cons_append, List.map_append]; exact hown', hk'⟩
        case measure =>
          simp [intOf]
          omega
    · obtain rfl : k = K := by omega
      have hT : M.take k = M := List.take_of_length_le (by rw [HML.out]; exact Nat.le_refl _)
      rw [hT] at hown
      have hN6 : N ≤ 400 := by omega
      clear hT
      go_wp2_with (at_builtin; refine wpList_push w (by rfl) _ _ (by rfl) appT_run (by rfl) hown hkept (by rfl) ?_ ?_; (exact ⟨rfl, rfl, rfl, by omega⟩); intro v' w' hown' hk' _ _)
      obtain ⟨VA, VC, rfl, hV⟩ := Sl.of_own hown'
      have hVl : N + 1 = (34 :: (replF 34 [38, 113, 117, 111, 116, 59] M ++ [34])).length := by
        have := hV.len
        simp at this
        simp
        omega
      have HV := Lib.hid hVl
      have HVS : Hid (Sl w' 1 (VA) (N + 1) VC ((34 :: (replF 34 [38, 113, 117, 111, 116, 59] M ++ [34])).map (Value.int .i32))) := by
        unfold Hid
        rw [← List.cons_append, List.map_append]
        exact hV
      clear hV hVl hown'
      go_wp2_with fail
      go_ret
      exact ⟨VA, VC, by rw [← HV.out]; rfl, by rw [← HV.out]; exact HVS.out, hk'⟩

set_option maxRecDepth 8000 in
set_option maxHeartbeats 8000000 in
theorem value_turn39 (w : World) (ci cd cq ce cl : Int) (ct cr : Bool) (A : Option Addr) (n c : Nat) (l : List Int) (h : Sl w 1 A n c (l.map (Value.int .i32))) (hn : n ≤ 60) (M : List Int) (hl : l = 34 :: (M ++ [34])) (hq : (clampF ⟨ci, cd, cq, ce, cl, ct, cr⟩).q = 2) :
    Calls Try.prog 21 #[.agg #[.int .i64 ci, .int .i64 cd, .int .i64 cq, .int .i64 ce, .int .i64 cl, .bool ct, .bool cr], .slice A n c] w fun e w' => RunesOf (39 :: (replF 39 [38, 97, 112, 111, 115, 59] M ++ [39])) w e w' := by
  have hll := h.llen1
  have hMl : M.length + 2 = n := by
    rw [hl] at hll
    simpa using hll
  have h2 : 2 ≤ n := by omega
  have hx : l[0]? = some 34 := by rw [hl]; rfl
  have hy : l[n - 1]? = some 34 := by
    rw [hl, show n - 1 = M.length + 1 by omega, List.getElem?_cons_succ, List.getElem?_append_right (Nat.le_refl _), Nat.sub_self]
    rfl
  have hcm : (l.drop 1).take (n - 1 - 1) = M := by
    rw [hl, List.drop_succ_cons, List.drop_zero, show n - 1 - 1 = M.length by omega, List.take_left]
  obtain ⟨m, hm⟩ : ∃ m, n - 1 = m := ⟨_, rfl⟩
  obtain ⟨b, o, x', y, hA, hx', hy', cx, cy⟩ := two_ends h h2
  rw [hx] at hx'
  rw [hy] at hy'
  obtain rfl := Option.some.inj hx'
  obtain rfl := Option.some.inj hy'
  have hcut0 := h.cut1 (i := 1) (m := n - 1) (by omega) (by omega)
  rw [hcm] at hcut0
  clear hx hy hx' hy' hcm hll hl
  rw [hm] at cy hcut0
  obtain ⟨K, hK⟩ : ∃ K, m - 1 = K := ⟨_, rfl⟩
  obtain ⟨C, hC⟩ : ∃ C, cutA A c 1 1 = C := ⟨_, rfl⟩
  rw [hK, hC] at hcut0
  have hncap := h.cap
  have hcut : ∀ wv : World, (Instr.slice 36 (.slice A n c) (some (.int .i64 1)) (some (.int .i64 (m : Int))) none).run Try.prog wv = .ok (.slice C K (c - 1)) wv := by
    intro wv
    have h1 := run_cut_lh appT_run A n c 1 m (by omega) (by omega) wv
    rw [hC, hK] at h1
    exact h1
  have HM := Lib.hid hcut0
  have HML := Lib.hid (show M.length = K by omega)
  have lK : K ≤ 60 := by omega
  clear hC hK hcut0 hMl
  have hc := fun w => clamp_any ⟨ci, cd, cq, ce, cl, ct, cr⟩ w
  obtain ⟨c', hc'⟩ : ∃ c', clampF ⟨ci, cd, cq, ce, cl, ct, cr⟩ = c' := ⟨_, rfl⟩
  rw [hc'] at hc hq
  clear hc'
  obtain ⟨di, dd, dq, de, dl, dt, dr⟩ := c'
  dsimp only at hq
  subst hq
  have B0 := Blk.new w #[.int .i64 ci, .int .i64 cd, .int .i64 cq, .int .i64 ce, .int .i64 cl, .bool ct, .bool cr] 23
  have K0 := (Kept.refl w).alloc (.cells #[.int .i64 ci, .int .i64 cd, .int .i64 cq, .int .i64 ce, .int .i64 cl, .bool ct, .bool cr] 23)
  have hm1 : IntKind.i64.wrap ((n : Int) - 1) = (m : Int) := by
    rw [show (n : Int) - 1 = (m : Int) by omega]
    exact IntWalk.i64_in _ (by omega)
  have l1 : ¬ (m : Int) < 1 := by omega
  have l2 : (m : Int) < n := by omega
  have l3 : (0 : Int) ≤ m := by omega
  have l4 : 0 < n := by omega
  have l5 : m < n := by omega
  have l7 : (1 : Int) ≤ m := by omega
  have l8 : (m : Int) ≤ c := by omega
  subst hA
  go_enter Try.func21, Try.ntmps21
  go_upto_region 2 with fail
  generalize w.alloc (.cells #[.int .i64 ci, .int .i64 cd, .int .i64 cq, .int .i64 ce, .int .i64 cl, .bool ct, .bool cr] 23) = w1 at K0 B0 ⊢
  obtain ⟨g, hg⟩ : ∃ g, w.heap.size = g := ⟨_, rfl⟩
  rw [hg] at B0 ⊢
  clear hg
  have qx : ∀ p : KeptFrom w1, p.x.cell? ⟨b, o, none⟩ = some (.int .i32 34) := fun p => (K0.trans p.k).cell cx
  have qy : ∀ p : KeptFrom w1, p.x.cell? ⟨b, o + m, none⟩ = some (.int .i32 34) := fun p => (K0.trans p.k).cell cy
  have bc := fun (p : KeptFrom w1) => (B0.kept p.k).cell
  have q0 : ∀ p : KeptFrom w1, p.x.cell? ⟨g, 0, none⟩ = some (.int .i64 ci) := fun p => bc p 0
  have q1 : ∀ p : KeptFrom w1, p.x.cell? ⟨g, 1, none⟩ = some (.int .i64 cd) := fun p => bc p 1
  have q2 : ∀ p : KeptFrom w1, p.x.cell? ⟨g, 2, none⟩ = some (.int .i64 cq) := fun p => bc p 2
  have q3 : ∀ p : KeptFrom w1, p.x.cell? ⟨g, 3, none⟩ = some (.int .i64 ce) := fun p => bc p 3
  have q4 : ∀ p : KeptFrom w1, p.x.cell? ⟨g, 4, none⟩ = some (.int .i64 cl) := fun p => bc p 4
  have q5 : ∀ p : KeptFrom w1, p.x.cell? ⟨g, 5, none⟩ = some (.bool ct) := fun p => bc p 5
  have q6 : ∀ p : KeptFrom w1, p.x.cell? ⟨g, 6, none⟩ = some (.bool cr) := fun p => bc p 6
  clear bc
  have HC : Hid (∀ p : KeptFrom w1, Calls Try.prog 11 #[.agg #[.int .i64 ci, .int .i64 cd, .int .i64 cq, .int .i64 ce, .int .i64 cl, .bool ct, .bool cr]] p.x fun e w' => e = .returned (.agg #[.int .i64 di, .int .i64 dd, .int .i64 2, .int .i64 de, .int .i64 dl, .bool dt, .bool dr]) ∧ Kept p.x w') := fun p => hc p.x
  have HA : Hid (∀ p : KeptFrom w1, Calls Try.prog 36 #[.agg #[.int .i64 di, .int .i64 dd, .int .i64 2, .int .i64 de, .int .i64 dl, .bool dt, .bool dr], .int .i32 34] p.x fun e w' => e = .returned (.int .i32 39) ∧ Kept p.x w') := fun p => asked_any ⟨di, dd, 2, de, dl, dt, dr⟩ 34 p.x
  refine wp_region_kept (by kernel_rfl) (by kernel_rfl) ?_
  repeat (quiet_step (first | (go_at_call 11; with_reducible exact Calls.kept_of (HC.out _)) | (go_at_call 36; with_reducible exact Calls.kept_of (HA.out _)) | fail))
  refine wpQuiet_nil ?_
  rintro w2 ⟨p, hp⟩
  have k2 : Kept w1 w2 := by
    rw [hp]
    exact p.k
  clear hp p
  have K2 := K0.trans k2
  have B2 := B0.kept k2
  clear qx qy q0 q1 q2 q3 q4 q5 q6 HC HA
  go_upto_region 4 with fail
  have qx : ∀ p : KeptFrom w2, p.x.cell? ⟨b, o, none⟩ = some (.int .i32 34) := fun p => (K2.trans p.k).cell cx
  have qy : ∀ p : KeptFrom w2, p.x.cell? ⟨b, o + m, none⟩ = some (.int .i32 34) := fun p => (K2.trans p.k).cell cy
  have bc := fun (p : KeptFrom w2) => (B2.kept p.k).cell
  have q0 : ∀ p : KeptFrom w2, p.x.cell? ⟨g, 0, none⟩ = some (.int .i64 ci) := fun p => bc p 0
  have q1 : ∀ p : KeptFrom w2, p.x.cell? ⟨g, 1, none⟩ = some (.int .i64 cd) := fun p => bc p 1
  have q2 : ∀ p : KeptFrom w2, p.x.cell? ⟨g, 2, none⟩ = some (.int .i64 cq) := fun p => bc p 2
  have q3 : ∀ p : KeptFrom w2, p.x.cell? ⟨g, 3, none⟩ = some (.int .i64 ce) := fun p => bc p 3
  have q4 : ∀ p : KeptFrom w2, p.x.cell? ⟨g, 4, none⟩ = some (.int .i64 cl) := fun p => bc p 4
  have q5 : ∀ p : KeptFrom w2, p.x.cell? ⟨g, 5, none⟩ = some (.bool ct) := fun p => bc p 5
  have q6 : ∀ p : KeptFrom w2, p.x.cell? ⟨g, 6, none⟩ = some (.bool cr) := fun p => bc p 6
  clear bc
  have HC2 : Hid (∀ p : KeptFrom w2, Calls Try.prog 11 #[.agg #[.int .i64 ci, .int .i64 cd, .int .i64 cq, .int .i64 ce, .int .i64 cl, .bool ct, .bool cr]] p.x fun e w' => e = .returned (.agg #[.int .i64 di, .int .i64 dd, .int .i64 2, .int .i64 de, .int .i64 dl, .bool dt, .bool dr]) ∧ Kept p.x w') := fun p => hc p.x
  have HA2 : Hid (∀ p : KeptFrom w2, Calls Try.prog 36 #[.agg #[.int .i64 di, .int .i64 dd, .int .i64 2, .int .i64 de, .int .i64 dl, .bool dt, .bool dr], .int .i32 34] p.x fun e w' => e = .returned (.int .i32 39) ∧ Kept p.x w') := fun p => asked_any ⟨di, dd, 2, de, dl, dt, dr⟩ 34 p.x
  refine wp_region_kept (by kernel_rfl) (by kernel_rfl) ?_
  repeat (quiet_step (first | (go_at_call 11; with_reducible exact Calls.kept_of (HC2.out _)) | (go_at_call 36; with_reducible exact Calls.kept_of (HA2.out _)) | fail))
  refine wpQuiet_nil ?_
  rintro w3 ⟨p, hp⟩
  have k3 : Kept w2 w3 := by
    rw [hp]
    exact p.k
  clear hp p
  have K3 := K2.trans k3
  clear qx qy q0 q1 q2 q3 q4 q5 q6 HC2 HA2 hc B0 B2 K0 K2 k2 k3 cx cy
  go_upto_region 8 with fail
  generalize hS : ({ data := #[38, 97, 112, 111, 115, 59] } : ByteArray) = S
  have hsz : S.size = 6 := by rw [← hS]; rfl
  have hasc : ∀ i (h : i < S.size), (S[i]'h).toNat < 128 := by
    intro i h
    have : ∀ b ∈ S.data.toList, b.toNat < 128 := by rw [← hS]; decide
    exact this _ (List.getElem_mem (h := h))
  have hfin : bytesI S = [38, 97, 112, 111, 115, 59] := by rw [← hS]; rfl
  clear hS
  have HASC := Lib.hid hasc
  have HFIN := Lib.hid hfin
  clear hasc hfin
  go_upto_region 9 with fail
  have own0 : (w3.alloc (.cells #[.int .i32 39] 21)).ownsRow w.heap.size 21 1 (.slice (some ⟨w3.heap.size, 0, none⟩) 1 1) 1 ([.int .i32 39]) := own_lit (by rfl) (by omega) K3.size
  have K4 : Kept w (w3.alloc (.cells #[.int .i32 39] 21)) := K3.alloc _
  generalize w3.alloc (.cells #[.int .i32 39] 21) = w4 at own0 K4 ⊢
  have HO := Lib.hid own0
  clear own0
  go_wp2_with fail
  go_loopw [8, 68] (fun v i wr => ∃ (k N : Nat), k ≤ K ∧ i = .int .i64 k ∧ N ≤ 1 + 6 * k ∧ wr.ownsRow w.heap.size 21 1 v N ((39 :: replF 39 [38, 97, 112, 111, 115, 59] (M.take k)).map (Value.int .i32)) ∧ Kept w wr) (fun _ i _ => K - (intOf i).toNat)
  case atStart => exact ⟨0, 1, Nat.zero_le _, rfl, by omega, HO.out, K4⟩
  case round =>
    obtain ⟨k, N, hk, rfl, hN, hown, hkept⟩ := hrel
    by_cases hlt : k < K
    · obtain ⟨pb, po, y, rfl, hy, cy, hyb⟩ := (HM.out.kept hkept).oneb hlt
      have HY := Lib.hid hy
      have lk : (k : Int) < K := by omega
      clear hy
      by_cases hyq : y = 39
      · have HR : Hid (replF 39 [38, 97, 112, 111, 115, 59] (M.take (k + 1)) = replF 39 [38, 97, 112, 111, 115, 59] (M.take k) ++ [38, 97, 112, 111, 115, 59]) := by
          unfold Hid
          rw [List.take_add_one, HY.out, hyq]
          simp [replF, List.flatMap_append]
        subst hyq
        have hwr := hkept.size
        have HW := Lib.hid (show _ ∧ _ from ⟨hown, hkept⟩)
        go_wp2_with fail
        obtain ⟨it, hit0⟩ : ∃ it, wr.heap.size = it := ⟨_, rfl⟩
        obtain ⟨T, hT⟩ : ∃ T, replF 39 [38, 97, 112, 111, 115, 59] (M.take k) = T := ⟨_, rfl⟩
        rw [hT] at hown HR
        have hown2 := hown.alloc (.stringIter S 0)
        have hk2 := hkept.alloc (.stringIter S 0)
        have hi2 := World.iter_heap wr S 0
        have hWi : w.heap.size ≤ it := by rw [← hit0]; exact hwr
        rw [hit0] at hi2 ⊢
        have H6 := HFIN.out
        go_loopw [8] (fun v wx => ∃ (pos : Nat), pos ≤ S.size ∧ wx.heap[it]? = some (.stringIter S pos) ∧ wx.ownsRow w.heap.size 21 1 v (N + pos) (((39 :: T) ++ (bytesI S).take pos).map (Value.int .i32)) ∧ Kept w wx) (fun _ wx => S.size - wx.iterPos it)
        case atStart => exact ⟨0, Nat.zero_le _, hi2, by rw [List.take_zero, List.append_nil]; exact hown2, hk2⟩
        case round =>
          clear hown hkept hown2 hk2 hi2
          obtain ⟨pos, hps, hit, hown, hkept⟩ := hrel
          by_cases hp : pos < S.size
          · have h128 := HASC.out pos hp
            have hnext : ∀ ty, (Instr.next (.pointer (some ⟨it, 0, none⟩)) true ty).run Try.prog wr = _ := fun ty => Lib.run_next_ascii_at wr it S pos ty hit hp h128
            have hkI := Lib.iterAt_heap wr it S pos (pos + 1) hit
            have hownI := own_iterC hown hit (pos + 1)
            have hkp : Kept w (wr.iterAt it S (pos + 1)) := Lib.below_iterAt hkept hWi S (pos + 1)
            have hmu : wr.iterPos it = pos := iterPos_of hit
            have hsn := Lib.hid (bytesI_snoc hp)
            generalize wr.iterAt it S (pos + 1) = W1 at hnext hownI hkI hkp
            have hni := own_not_iterC hownI hkI
            have hNp : N + pos ≤ 1000 := by omega
            clear hown hit hkept
            go_wp2_with (at_builtin; refine wpList_push w (by rfl) _ _ (by rfl) appT_run (by rfl) hownI hkp (by rfl) ?_ ?_; (exact ⟨rfl, rfl, rfl, by omega⟩); intro v' w' hown' hk' hgr hob)
            have hlt1 : it < W1.heap.size := (Array.getElem?_eq_some_iff.1 hkI).1
            have hit2 : w'.heap[it]? = some (.stringIter S (pos + 1)) :=
              ((World.grownBy.block hgr it (by rw [World.size_alloc]; omega) (fun e => hni e.symm)).trans (Below.heap_alloc W1 _ _ hlt1)).trans hkI
            clear hownI hgr hob hnext hkp hkI hni
            go_roundw
            case rel => exact ⟨pos + 1, hp, hit2, by rw [hsn.out, ← List.append_assoc, List.map_append, ← Nat.add_assoc]; exact hown', hk'⟩
            case measure =>
              rw [hmu, iterPos_of hit2]
              omega
          · have hpe : pos = S.size := by omega
            have hnext : ∀ ty, (Instr.next (.pointer (some ⟨it, 0, none⟩)) true ty).run Try.prog wr = _ := fun ty => Lib.run_next_end_at wr it S pos ty hit hp
            rw [hpe, List.take_of_length_le (by rw [bytesI_len]; exact Nat.le_refl _), HFIN.out, hsz] at hown
            have HOW := Lib.hid hown
            clear hown hit
            go_wp2_with fail
            go_roundw
            case rel => exact ⟨k + 1, N + 6, hlt, by go_num, by omega, by rw [HR.out]; exact HOW.out, hkept⟩
            case measure =>
              simp [intOf]
              omega
      · have HR : Hid (replF 39 [38, 97, 112, 111, 115, 59] (M.take (k + 1)) = replF 39 [38, 97, 112, 111, 115, 59] (M.take k) ++ [y]) := by
          unfold Hid
          rw [List.take_add_one, HY.out]
          simp [replF, List.flatMap_append, hyq]
        have hyb' : (y != 39) = true := by simpa using hyq
        go_wp2_with (at_builtin; refine wpList_push w (by rfl) _ _ (by rfl) appT_run (by rfl) hown hkept (by rfl) ?_ ?_; (exact ⟨rfl, rfl, rfl, by omega⟩); intro v' w' hown' hk' _ _)
        go_roundw
        case rel => exact ⟨k + 1, N + 1, hlt, by go_num, by omega, by rw [HR.out, ← List.cons_append, List.map_append]; exact hown', hk'⟩
        case measure =>
          simp [intOf]
          omega
    · obtain rfl : k = K := by omega
      have hT : M.take k = M := List.take_of_length_le (by rw [HML.out]; exact Nat.le_refl _)
      rw [hT] at hown
      have hN6 : N ≤ 400 := by omega
      clear hT
      go_wp2_with (at_builtin; refine wpList_push w (by rfl) _ _ (by rfl) appT_run (by rfl) hown hkept (by rfl) ?_ ?_; (exact ⟨rfl, rfl, rfl, by omega⟩); intro v' w' hown' hk' _ _)
      obtain ⟨VA, VC, rfl, hV⟩ := Sl.of_own hown'
      have hVl : N + 1 = (39 :: (replF 39 [38, 97, 112, 111, 115, 59] M ++ [39])).length := by
        have := hV.len
        simp at this
        simp
        omega
      have HV := Lib.hid hVl
      have HVS : Hid (Sl w' 1 (VA) (N + 1) VC ((39 :: (replF 39 [38, 97, 112, 111, 115, 59] M ++ [39])).map (Value.int .i32))) := by
        unfold Hid
        rw [← List.cons_append, List.map_append]
        exact hV
      clear hV hVl hown'
      go_wp2_with fail
      go_ret
      exact ⟨VA, VC, by rw [← HV.out]; rfl, by rw [← HV.out]; exact HVS.out, hk'⟩

end Go.Proofs.Ytmicmmbdkmmnoaa
