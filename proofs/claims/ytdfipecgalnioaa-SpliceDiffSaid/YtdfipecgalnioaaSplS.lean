/- The library's insertion sort at changes: its laying at this program; the world behind it. -/
import Derived.Test.YtdfipecgalnioaaSortK
import Derived.Test.YtdfipecgalnioaaSplW
namespace Go.Proofs.Ytdfipecgalnioaa
open Go.Shelf Go.RowKit Go.Lib Go.Sort

def insRen : Go.Shelf.Ren := ⟨fun | 20 => 29 | n => n, fun | 0 => 0 | 3 => 3 | 4 => 4 | 22 => 24 | 24 => 44 | 25 => 55 | n => n, fun | n => n⟩
theorem insLays : SlLaysF0.n20 Try.prog insRen := {
  mixed := by kernel_rfl
  f20 := ⟨Try.f29.name, by decide, Try.func29.trans (congrArg some (by kernel_rfl))⟩
  t0 := Try.underlying0
  a0 := Try.isAgg0
  z0 := Try.sizeOf0
  v0 := Try.zeroValue0
  t3 := Try.underlying3
  a3 := Try.isAgg3
  z3 := Try.sizeOf3
  v3 := Try.zeroValue3
  t4 := Try.underlying4
  a4 := Try.isAgg4
  z4 := Try.sizeOf4
  v4 := Try.zeroValue4
  t22 := Try.underlying24
  a22 := Try.isAgg24
  z22 := Try.sizeOf24
  v22 := Try.zeroValue24
  t25 := Try.underlying55
  a25 := Try.isAgg55
  z25 := Try.sizeOf55
  v25 := Try.zeroValue55 }

/-- Blocks and draws behind a world, nothing else. -/
def Grew (w w' : World) : Prop := ∃ q os, w' = grow (w.drewN q) os
theorem Grew.refl (w : World) : Grew w w := ⟨0, #[], by rw [grow_empty]; rfl⟩
theorem Grew.alloc {a w : World} (h : Grew a w) (o : Obj) : Grew a (w.alloc o) := by
  obtain ⟨q, os, rfl⟩ := h
  exact ⟨q, os ++ #[o], by rw [alloc_eq_grow, grow_grow]⟩
theorem Grew.drew {a w : World} (h : Grew a w) : Grew a w.drew := by
  obtain ⟨q, os, rfl⟩ := h
  exact ⟨q + 1, os, rfl⟩

def cmpI (a b : Int) : Int := if a < b then -1 else if b < a then 1 else 0
theorem isNaN_any (a : Int) (w : World) : Calls Try.prog 28 #[.int .i64 a] w fun e w' => e = .returned (.bool false) ∧ w = w' := by
  go_enter Try.func28, Try.ntmps28
  go_wp2_with fail
  go_ret
  exact ⟨ret_bool (by simp), rfl⟩
theorem compare_any (a b : Int) (w : World) : Calls Try.prog 23 #[.int .i64 a, .int .i64 b] w fun e w' => e = .returned (.int .i64 (cmpI a b)) ∧ w = w' := by
  unfold cmpI
  rcases (show a < b ∨ b < a ∨ a = b by omega) with h | h | h
  · rw [if_pos h]
    go_enter Try.func23, Try.ntmps23
    go_wp2_with (go_at_call 28; refine (isNaN_any _ _).mono ?_; rintro e w' ⟨rfl, rfl⟩)
    go_ret
    exact ⟨rfl, rfl⟩
  · have h' : ¬ a < b := by omega
    rw [if_neg h', if_pos h]
    go_enter Try.func23, Try.ntmps23
    go_wp2_with (go_at_call 28; refine (isNaN_any _ _).mono ?_; rintro e w' ⟨rfl, rfl⟩)
    go_ret
    exact ⟨rfl, rfl⟩
  · subst h
    rw [if_neg (by omega), if_neg (by omega)]
    go_enter Try.func23, Try.ntmps23
    go_wp2_with (go_at_call 28; refine (isNaN_any _ _).mono ?_; rintro e w' ⟨rfl, rfl⟩)
    go_ret
    exact ⟨rfl, rfl⟩
/-- 'cmp.Or' of two numbers. -/
theorem or_any (b : Nat) (x y : Int) (w : World) (h0 : w.cell? ⟨b, 0, none⟩ = some (.int .i64 x)) (h1 : w.cell? ⟨b, 1, none⟩ = some (.int .i64 y)) :
    Calls Try.prog 22 #[.slice (some ⟨b, 0, none⟩) 2 2] w fun e w' => e = .returned (.int .i64 (if x = 0 then y else x)) ∧ w = w' := by
  by_cases hx : x = 0
  · subst hx
    rw [if_pos rfl]
    by_cases hy : y = 0
    · subst hy
      go_enter Try.func22, Try.ntmps22
      go_wp2_with fail
      refine wp_loop_rounds 3 ?_
      rw [rounds_succ]
      go_wp2_with fail
      rw [rounds_succ]
      go_wp2_with fail
      rw [rounds_succ]
      go_wp2_with fail
      go_ret
      exact ⟨rfl, rfl⟩
    · have d1 : (y != 0) = true := by simpa using hy
      go_enter Try.func22, Try.ntmps22
      go_wp2_with fail
      refine wp_loop_rounds 2 ?_
      rw [rounds_succ]
      go_wp2_with fail
      rw [rounds_succ]
      go_wp2_with fail
      go_ret
      exact ⟨rfl, rfl⟩
  · rw [if_neg hx]
    have d1 : (x != 0) = true := by simpa using hx
    go_enter Try.func22, Try.ntmps22
    go_wp2_with fail
    refine wp_loop_rounds 1 ?_
    rw [rounds_succ]
    go_wp2_with fail
    go_ret
    exact ⟨rfl, rfl⟩
def cmpC (x y : Ch) : Int := if cmpI x.f y.f = 0 then cmpI x.t y.t else cmpI x.f y.f
set_option maxHeartbeats 4000000 in
theorem cmp_any (x y : Ch) (w : World) : Calls Try.prog 21 #[.agg #[.int .i64 x.f, .int .i64 x.t, .slice x.A x.n x.c], .agg #[.int .i64 y.f, .int .i64 y.t, .slice y.A y.n y.c]] w fun e w' => e = .returned (.int .i64 (cmpC x y)) ∧ Grew w w' := by
  unfold cmpC
  generalize x.f = f
  generalize x.t = t
  generalize y.f = f'
  generalize y.t = t'
  have hc1 := fun w => compare_any f f' w
  have hc2 := fun w => compare_any t t' w
  generalize cmpI f f' = u at hc1 ⊢
  generalize cmpI t t' = v at hc2 ⊢
  have hor := fun b w h0 h1 => or_any b u v w h0 h1
  generalize (if u = 0 then v else u) = z at hor ⊢
  have H3 := Lib.hid hor
  clear hor
  have H1 := Lib.hid hc1
  have H2 := Lib.hid hc2
  clear hc1 hc2
  go_enter Try.func21, Try.ntmps21
  go_wp2_with fail
  go_region_held3 (fun w' => w'.cell? ⟨w.heap.size, 0, none⟩ = some (.int .i64 f) ∧ w'.cell? ⟨w.heap.size, 1, none⟩ = some (.int .i64 t) ∧ w'.cell? ⟨w.heap.size + 1, 0, none⟩ = some (.int .i64 f') ∧ w'.cell? ⟨w.heap.size + 1, 1, none⟩ = some (.int .i64 t')) (first | go_keep) (first
    | (go_at_call 23; first
        | ((with_reducible refine (H1.out _).mono ?_); rintro e w' ⟨rfl, rfl⟩)
        | ((with_reducible refine (H2.out _).mono ?_); rintro e w' ⟨rfl, rfl⟩))
    | (go_at_call 22; refine (H3.out _ _ (by simp [go_sem]) (by simp [go_sem])).mono ?_; rintro e w' ⟨rfl, rfl⟩))
  all_goals go_wp2_with fail
  all_goals go_ret
  all_goals exact ⟨rfl, ((((Grew.refl _).alloc _).alloc _).alloc _).drew⟩

theorem cmpI_lt (a b : Int) : (cmpI a b < 0) ↔ a < b := by
  unfold cmpI
  (repeat' split) <;> omega
theorem cmpI_eq (a b : Int) : (cmpI a b = 0) ↔ a = b := by
  unfold cmpI
  (repeat' split) <;> omega
theorem lt_ahead (x y : Ch) : ltOf cmpC x y = aheadK x.k y.k := by
  show decide (cmpC x y < 0) = (decide (x.f < y.f) || (x.f == y.f && decide (x.t < y.t)))
  unfold cmpC
  by_cases h : cmpI x.f y.f = 0
  · rw [if_pos h]
    have h1 := (cmpI_eq _ _).1 h
    rw [Bool.eq_iff_iff]
    simp [cmpI_lt]
    omega
  · rw [if_neg h]
    have h1 : ¬ x.f = y.f := fun e => h ((cmpI_eq _ _).2 e)
    rw [Bool.eq_iff_iff]
    simp [cmpI_lt]
    omega

theorem ins_any (g cap : Nat) (L : List Ch) (W w : World) (hk : Kept W w) (hg : W.heap.size ≤ g) (hS : Sl w 3 (some ⟨g, 0, none⟩) L.length cap (L.flatMap Ch.cells)) (hf : ∀ j, j < L.length * 3 → w.frozen? ⟨g, j, none⟩ = false) (hb : g < w.heap.size) (hn : L.length ≤ 19) :
    Calls Try.prog 29 #[.slice (some ⟨g, 0, none⟩) L.length cap, .int .i64 0, .int .i64 L.length, .func (.func 21) #[] #[]] w fun e w' =>
      e = .returned (.tuple #[]) ∧ Sl w' 3 (some ⟨g, 0, none⟩) L.length cap ((sortF (ltOf cmpC) L).flatMap Ch.cells) ∧ Kept W w' ∧ ∀ a : Addr, a.block < w.heap.size → a.block ≠ g → w'.cell? a = w.cell? a := by
  have hcap := hS.cap
  have hmax := hS.2.2.1
  have hH := holdsK_of_sl (k := 3) (fun _ => rfl) hS rfl hf
  have hsz : L.length < 4611686018427387904 := by omega
  refine (AnyQ.insertionSortCmpFunc insLays 3 Try.isAgg44 Try.sizeOf44 Ch.cells (fun _ => rfl) ch_one cmpC 21 #[] g 0 cap 0 L.length L.toArray w (enters_of Try.func21 (by kernel_rfl) rfl)
    (fun m os dk hdk x y => (cmp_any x y _).mono fun e w' h => h) hH hb (Nat.zero_le _) (by simp) (by simpa using hsz)).mono ?_
  rintro e w' ⟨rfl, q, os, rfl⟩
  have hl : (sortF (ltOf cmpC) L).length = L.length := sortF_len _ _
  refine ⟨rfl, ?_, kept_sortWorldK hk hg _ _ _, fun a h1 h2 => cell_sortWorldK h1 h2 _ _ _⟩
  have e1 : Sort.insertionSort (ltOf cmpC) L.toArray 0 L.length = (sortF (ltOf cmpC) L).toArray := by
    apply Array.toList_inj.1
    have := insertionSort_list (ltOf cmpC) L.toArray
    simpa using this
  refine sl_of_holdsK (fun _ => rfl) ?_ hl hcap hmax
  rw [e1]
  exact holdsK_sortWorldK_c Ch.cells 3 w g 0 L.toArray _ q os hH hb (by simp [hl])

theorem stable_any (g cap : Nat) (L : List Ch) (W w : World) (hk : Kept W w) (hg : W.heap.size ≤ g) (hS : Sl w 3 (some ⟨g, 0, none⟩) L.length cap (L.flatMap Ch.cells)) (hf : ∀ j, j < L.length * 3 → w.frozen? ⟨g, j, none⟩ = false) (hb : g < w.heap.size) (hn : L.length ≤ 19) :
    Calls Try.prog 20 #[.slice (some ⟨g, 0, none⟩) L.length cap, .func (.func 21) #[] #[]] w fun e w' =>
      e = .returned (.tuple #[]) ∧ Sl w' 3 (some ⟨g, 0, none⟩) L.length cap ((sortF (ltOf cmpC) L).flatMap Ch.cells) ∧ Kept W w' ∧ ∀ a : Addr, a.block < w.heap.size → a.block ≠ g → w'.cell? a = w.cell? a := by
  have hins := ins_any g cap L W w hk hg hS hf hb hn
  have hc : Calls Try.prog 27 #[.slice (some ⟨g, 0, none⟩) L.length cap, .int .i64 L.length, .func (.func 21) #[] #[]] w fun e w' =>
      e = .returned (.tuple #[]) ∧ Sl w' 3 (some ⟨g, 0, none⟩) L.length cap ((sortF (ltOf cmpC) L).flatMap Ch.cells) ∧ Kept W w' ∧ ∀ a : Addr, a.block < w.heap.size → a.block ≠ g → w'.cell? a = w.cell? a := by
    have d1 : decide ((20 : Int) ≤ L.length) = false := by simp; omega
    have d2 : decide ((20 : Int) < L.length) = false := by simp; omega
    have HI := Lib.hid hins
    clear hins
    go_enter Try.func27, Try.ntmps27
    go_wp2_with fail
    refine wp_loop_rounds 1 ?_
    rw [rounds_succ]
    go_wp2_with fail
    refine HI.out.mono ?_
    rintro e w' ⟨rfl, h1, h2, h3⟩
    go_wp2_with fail
    refine wp_loop_rounds 1 ?_
    rw [rounds_succ]
    go_wp2_with fail
    go_end0
    exact ⟨rfl, h1, h2, h3⟩
  have HC := Lib.hid hc
  clear hc hins
  go_enter Try.func20, Try.ntmps20
  go_wp2_with fail
  refine HC.out.mono ?_
  rintro e w' ⟨rfl, h1, h2, h3⟩
  go_wp2_with fail
  go_end0
  exact ⟨rfl, h1, h2, h3⟩
end Go.Proofs.Ytdfipecgalnioaa
