/- The law ScopeSame, walked; names among the arguments, opened. -/
import Derived.Test.YtdlgjbijnhfbhaaScoN
import Derived.Test.YtdlgjbijnhfbhaaOpen
namespace Go.Proofs.Ytdlgjbijnhfbhaa
open Go.RowKit
attribute [local go_sem ↓] Go.wp_at_zero Go.wp_at_succ

set_option maxRecDepth 100000 in
set_option maxHeartbeats 8000000 in
theorem scopeSame_any (a b c a' b' c' : ByteArray) (w : World) : Calls Try.prog 4 #[.agg #[.string a, .string b, .string c], .agg #[.string a', .string b', .string c']] w fun e w' => e = .returned (.bool true) ∧ Kept w w' := by
  have hs1 := fun w' => same_any a b c a' b' c' w'
  have hs2 := fun w' => same_any a b c a b c w'
  rw [show (eqS a a && eqS b b) = true by rw [eqS_iff.2 rfl, eqS_iff.2 rfl]; rfl] at hs2
  obtain ⟨z1, hz1⟩ : ∃ z, eqS a a' = z := ⟨_, rfl⟩
  obtain ⟨z2, hz2⟩ : ∃ z, eqS b b' = z := ⟨_, rfl⟩
  rw [hz1, hz2] at hs1
  have d1 : (a.toList == a'.toList) = z1 := hz1
  have d2 : (b.toList == b'.toList) = z2 := hz2
  have H1 := Lib.hid hs1
  have H2 := Lib.hid hs2
  clear hs1 hs2 hz1 hz2
  obtain ⟨W4, hW4⟩ : ∃ W, W = ((((w.alloc (.cells #[.string a, .string b, .string c] 33)).alloc (.cells #[.string a', .string b', .string c'] 33)).alloc (.cells #[.string a, .string b, .string c] 34)).alloc (.cells #[.string a', .string b', .string c'] 34)) := ⟨_, rfl⟩
  have k4 : Kept w W4 := by rw [hW4]; exact ((((Kept.refl w).alloc _).alloc _).alloc _).alloc _
  have c00 : W4.cell? ⟨w.heap.size, 0, none⟩ = some (.string a) := by rw [hW4]; simp [go_sem]
  have e00 : ∀ p : KeptFrom W4, p.x.cell? ⟨w.heap.size, 0, none⟩ = some (.string a) := fun p => p.k.cell c00
  have c01 : W4.cell? ⟨w.heap.size, 1, none⟩ = some (.string b) := by rw [hW4]; simp [go_sem]
  have e01 : ∀ p : KeptFrom W4, p.x.cell? ⟨w.heap.size, 1, none⟩ = some (.string b) := fun p => p.k.cell c01
  have c02 : W4.cell? ⟨w.heap.size, 2, none⟩ = some (.string c) := by rw [hW4]; simp [go_sem]
  have e02 : ∀ p : KeptFrom W4, p.x.cell? ⟨w.heap.size, 2, none⟩ = some (.string c) := fun p => p.k.cell c02
  have c10 : W4.cell? ⟨w.heap.size + 1, 0, none⟩ = some (.string a') := by rw [hW4]; simp [go_sem]
  have e10 : ∀ p : KeptFrom W4, p.x.cell? ⟨w.heap.size + 1, 0, none⟩ = some (.string a') := fun p => p.k.cell c10
  have c11 : W4.cell? ⟨w.heap.size + 1, 1, none⟩ = some (.string b') := by rw [hW4]; simp [go_sem]
  have e11 : ∀ p : KeptFrom W4, p.x.cell? ⟨w.heap.size + 1, 1, none⟩ = some (.string b') := fun p => p.k.cell c11
  have c12 : W4.cell? ⟨w.heap.size + 1, 2, none⟩ = some (.string c') := by rw [hW4]; simp [go_sem]
  have e12 : ∀ p : KeptFrom W4, p.x.cell? ⟨w.heap.size + 1, 2, none⟩ = some (.string c') := fun p => p.k.cell c12
  have c20 : W4.cell? ⟨w.heap.size + 1 + 1, 0, none⟩ = some (.string a) := by rw [hW4]; simp [go_sem]
  have e20 : ∀ p : KeptFrom W4, p.x.cell? ⟨w.heap.size + 1 + 1, 0, none⟩ = some (.string a) := fun p => p.k.cell c20
  have c21 : W4.cell? ⟨w.heap.size + 1 + 1, 1, none⟩ = some (.string b) := by rw [hW4]; simp [go_sem]
  have e21 : ∀ p : KeptFrom W4, p.x.cell? ⟨w.heap.size + 1 + 1, 1, none⟩ = some (.string b) := fun p => p.k.cell c21
  have c22 : W4.cell? ⟨w.heap.size + 1 + 1, 2, none⟩ = some (.string c) := by rw [hW4]; simp [go_sem]
  have e22 : ∀ p : KeptFrom W4, p.x.cell? ⟨w.heap.size + 1 + 1, 2, none⟩ = some (.string c) := fun p => p.k.cell c22
  have c30 : W4.cell? ⟨w.heap.size + 1 + 1 + 1, 0, none⟩ = some (.string a') := by rw [hW4]; simp [go_sem]
  have e30 : ∀ p : KeptFrom W4, p.x.cell? ⟨w.heap.size + 1 + 1 + 1, 0, none⟩ = some (.string a') := fun p => p.k.cell c30
  have c31 : W4.cell? ⟨w.heap.size + 1 + 1 + 1, 1, none⟩ = some (.string b') := by rw [hW4]; simp [go_sem]
  have e31 : ∀ p : KeptFrom W4, p.x.cell? ⟨w.heap.size + 1 + 1 + 1, 1, none⟩ = some (.string b') := fun p => p.k.cell c31
  have c32 : W4.cell? ⟨w.heap.size + 1 + 1 + 1, 2, none⟩ = some (.string c') := by rw [hW4]; simp [go_sem]
  have e32 : ∀ p : KeptFrom W4, p.x.cell? ⟨w.heap.size + 1 + 1 + 1, 2, none⟩ = some (.string c') := fun p => p.k.cell c32
  have HW4 := Lib.hid hW4
  clear hW4 c00 c01 c02 c10 c11 c12 c20 c21 c22 c30 c31 c32
  cases z1
  · have d1p : ¬ (a.toList = a'.toList) := by simpa using d1
    go_enter Try.func4, Try.ntmps4
    go_upto_region 3 with fail
    rw [← HW4.out]
    refine wp_region_kept (by kernel_rfl) (by kernel_rfl) ?_
    repeat (quiet_step (first
      | (go_at_call 11; exact Calls.kept_of (scopeAwake_any _))
      | (go_at_call 12; first | with_reducible exact Calls.kept_of (H1.out _) | with_reducible exact Calls.kept_of (H2.out _))))
    refine wpQuiet_nil ?_
    rintro _ ⟨⟨w5, k5⟩, rfl⟩
    go_wp2_with fail
    go_ret
    exact ⟨rfl, k4.trans k5⟩
  · have d1p : a.toList = a'.toList := by simpa using d1
    cases z2
    all_goals
      go_enter Try.func4, Try.ntmps4
      go_upto_region 3 with fail
      rw [← HW4.out]
      refine wp_region_kept (by kernel_rfl) (by kernel_rfl) ?_
      repeat (quiet_step (first
        | (go_at_call 11; exact Calls.kept_of (scopeAwake_any _))
        | (go_at_call 12; first | with_reducible exact Calls.kept_of (H1.out _) | with_reducible exact Calls.kept_of (H2.out _))))
      refine wpQuiet_nil ?_
      rintro _ ⟨⟨w5, k5⟩, rfl⟩
      go_wp2_with fail
      go_ret
      exact ⟨rfl, k4.trans k5⟩
end Go.Proofs.Ytdlgjbijnhfbhaa
