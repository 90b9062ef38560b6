/- span.Sorted: walked. -/
import Derived.Test.YtdcigdkeakiknaaSpsH
import Derived.Test.YtdcigdkeakiknaaSpsI
namespace Go.Proofs.Ytdcigdkeakiknaa
open Go.RowKit
attribute [local go_sem ↓] Go.wp_at_zero Go.wp_at_succ

theorem appT_dgs : AppT Try.prog 48 52 3 := appT_mk (z := .agg #[.int .i64 0, .int .i64 0, .int .i64 0]) (bytes := 24) Try.underlying48 (by kernel_rfl) rfl (by omega) (by omega)
theorem dgs_one (L : List Dg) : (L.flatMap Dg.cells).all (fun u => u.oneCell') = true := by
  rw [List.all_eq_true]
  intro v hv
  obtain ⟨y, _, hy⟩ := List.mem_flatMap.1 hv
  simp [Dg.cells] at hy
  rcases hy with rfl | rfl | rfl <;> rfl
theorem stable0_any (A : Option Addr) (c : Nat) (F : Value) (w : World) :
    Calls Try.prog 28 #[.slice A 0 c, .int .i64 0, F] w fun e w' => e = .returned (.tuple #[]) ∧ w = w' := by
  have HI : Hid (Calls Try.prog 31 #[.slice A 0 c, .int .i64 0, .int .i64 0, F] w fun e w' => e = .returned (.tuple #[]) ∧ w = w') := ins0_any A 0 c 0 F w (by omega)
  go_enter Try.func28, Try.ntmps28
  go_wp2_with fail
  refine wp_loop_rounds 1 ?_
  rw [rounds_succ]
  go_wp2_with fail
  refine HI.out.mono ?_
  rintro e w' ⟨rfl, rfl⟩
  go_wp2_with fail
  refine wp_loop_rounds 1 ?_
  rw [rounds_succ]
  go_wp2_with fail
  go_end0
  exact ⟨rfl, rfl⟩
set_option maxHeartbeats 4000000 in
theorem stable_any (B g n c : Nat) (d : List Dg) (w : World) (h : Row B g n c w d) (h1 : 1 ≤ n) (hn : n ≤ 30) :
    Calls Try.prog 28 #[.slice (some ⟨g, 0, none⟩) n c, .int .i64 (n : Int), .func (.func 25) #[] #[]] w fun e w' => Sorts B g n c [] d [] w e w' := by
  have hl := h.len
  rcases (show n < 20 ∨ n = 20 ∨ 20 < n by omega) with hc | hc | hc
  · have HI : Hid (Calls Try.prog 31 #[.slice (some ⟨g, 0, none⟩) n c, .int .i64 0, .int .i64 (n : Int), .func (.func 25) #[] #[]] w fun e w' => Sorts B g n c [] d [] w e w') := ins1_any B g n c [] d [] 0 n w (by simpa using h) rfl (by omega) (by omega) (by omega)
    have d1 : ¬ ((20 : Int) ≤ n) := by omega
    have d2 : ¬ ((20 : Int) < n) := by omega
    clear hl h
    go_enter Try.func28, Try.ntmps28
    go_wp2_with fail
    refine wp_loop_rounds 1 ?_
    rw [rounds_succ]
    go_wp2_with fail
    refine HI.out.mono ?_
    rintro e w' ⟨rfl, g1, hW⟩
    have HW := Lib.hid hW
    clear hW
    go_wp2_with fail
    refine wp_loop_rounds 1 ?_
    rw [rounds_succ]
    go_wp2_with fail
    go_end0
    exact ⟨rfl, g1, HW.out⟩
  · subst hc
    have HI : Hid (Calls Try.prog 31 #[.slice (some ⟨g, 0, none⟩) 20 c, .int .i64 0, .int .i64 20, .func (.func 25) #[] #[]] w fun e w' => Sorts B g 20 c [] d [] w e w') := ins1_any B g 20 c [] d [] 0 20 w (by simpa using h) rfl (by omega) (by omega) (by omega)
    have HI2 : Hid (∀ w', Calls Try.prog 31 #[.slice (some ⟨g, 0, none⟩) 20 c, .int .i64 20, .int .i64 20, .func (.func 25) #[] #[]] w' fun e w'' => e = .returned (.tuple #[]) ∧ w' = w'') := fun w' => ins0_any _ 20 c 20 _ w' (by omega)
    clear hl h
    go_enter Try.func28, Try.ntmps28
    go_wp2_with fail
    refine wp_loop_rounds 2 ?_
    rw [rounds_succ]
    go_wp2_with fail
    refine HI.out.mono ?_
    rintro e w' ⟨rfl, g1, hW⟩
    have HW := Lib.hid hW
    clear hW
    go_wp2_with fail
    rw [rounds_succ]
    go_wp2_with fail
    refine (HI2.out _).mono ?_
    rintro e w'' ⟨rfl, rfl⟩
    go_wp2_with fail
    refine wp_loop_rounds 1 ?_
    rw [rounds_succ]
    go_wp2_with fail
    go_end0
    exact ⟨rfl, g1, HW.out⟩
  · have HI : Hid (Calls Try.prog 31 #[.slice (some ⟨g, 0, none⟩) n c, .int .i64 0, .int .i64 20, .func (.func 25) #[] #[]] w fun e w' => Sorts B g n c [] (d.take 20) (d.drop 20) w e w') := ins1_any B g n c [] (d.take 20) (d.drop 20) 0 20 w (by simpa using h) rfl (by simp; omega) (by omega) (by simp; omega)
    have HI2 : Hid (∀ (W1 : List Dg) (w' : World), W1.Perm (d.take 20) → Row B g n c w' ([] ++ W1 ++ d.drop 20) → Calls Try.prog 31 #[.slice (some ⟨g, 0, none⟩) n c, .int .i64 20, .int .i64 (n : Int), .func (.func 25) #[] #[]] w' fun e w'' => Sorts B g n c W1 (d.drop 20) [] w' e w'') := fun W1 w' hp hr => ins1_any B g n c W1 (d.drop 20) [] 20 n w' (by simpa using hr) (by rw [hp.length_eq]; simp; omega) (by simp; omega) (by omega) (by simp; omega)
    have HM : Hid (∀ (W1 W2 : List Dg) (w' : World), W1.Perm (d.take 20) → W2.Perm (d.drop 20) → InOrder ltD W1 → InOrder ltD W2 → Row B g n c w' (W1 ++ W2 ++ []) → Calls Try.prog 32 #[.slice (some ⟨g, 0, none⟩) n c, .int .i64 0, .int .i64 20, .int .i64 (n : Int), .func (.func 25) #[] #[]] w' fun e w'' => Merges B g n c [] W1 W2 [] w' e w'') := by
      intro W1 W2 w' hp hq o1 o2 hr
      have e1 : W1.length = 20 := by rw [hp.length_eq]; simp; omega
      have e2 : W2.length = n - 20 := by rw [hq.length_eq]; simp; omega
      exact symMerge_any B g n c (by omega) (n + 1) [] W1 W2 [] 0 20 n w' (by omega) (by simpa using hr) rfl (by omega) (by omega) o1 o2 (by omega) (by omega)
    have HF : Hid (∀ W1 W2 W : List Dg, W1.Perm (d.take 20) → W2.Perm (d.drop 20) → W.Perm (W1 ++ W2) → W.Perm d) := by
      intro W1 W2 W p1 p2 p3
      have := p3.trans (p1.append p2)
      rwa [List.take_append_drop] at this
    have d1 : (20 : Int) ≤ n := by omega
    have d2 : (20 : Int) < n := by omega
    have d3 : ¬ ((40 : Int) ≤ n) := by omega
    have d4 : ¬ ((40 : Int) < n) := by omega
    clear hl h
    go_enter Try.func28, Try.ntmps28
    go_wp2_with fail
    refine wp_loop_rounds 2 ?_
    rw [rounds_succ]
    go_wp2_with fail
    refine HI.out.mono ?_
    rintro e w1 ⟨rfl, g1, W1, p1, o1, r1⟩
    have HC2 := Lib.hid (HI2.out W1 w1 p1 r1)
    clear r1
    have P1 := Lib.hid p1
    have O1 := Lib.hid o1
    clear p1 o1
    go_wp2_with fail
    rw [rounds_succ]
    go_wp2_with fail
    refine HC2.out.mono ?_
    rintro e w2 ⟨rfl, g2, W2, p2, o2, r2⟩
    have HC3 := Lib.hid (HM.out W1 W2 w2 P1.out p2 O1.out o2 r2)
    have P2 := Lib.hid p2
    have hg2 := g1.trans g2
    clear p2 o2 r2 g1 g2 HC2
    go_wp2_with fail
    refine wp_loop_rounds 2 ?_
    rw [rounds_succ]
    go_wp2_with fail
    refine wp_loop_rounds 1 ?_
    rw [rounds_succ]
    go_wp2_with fail
    refine HC3.out.mono ?_
    rintro e w3 ⟨rfl, g3, W, p3, o3, r3⟩
    have hg3 := hg2.trans g3
    have HW := Lib.hid (show ∃ W : List Dg, W.Perm d ∧ InOrder ltD W ∧ Row B g n c w3 ([] ++ W ++ []) from ⟨W, HF.out W1 W2 W P1.out P2.out p3, o3, r3⟩)
    clear p3 o3 r3 g3 hg2
    go_wp2_with fail
    rw [rounds_succ]
    go_wp2_with fail
    go_end0
    exact ⟨rfl, hg3, HW.out⟩
theorem sorts0_any (A : Option Addr) (c : Nat) (F : Value) (w : World) :
    Calls Try.prog 24 #[.slice A 0 c, F] w fun e w' => e = .returned (.tuple #[]) ∧ w = w' := by
  have HI := Lib.hid (stable0_any A c F w)
  go_enter Try.func24, Try.ntmps24
  go_wp2_with fail
  refine HI.out.mono ?_
  rintro e w' ⟨rfl, rfl⟩
  go_wp2_with fail
  go_end0
  exact ⟨rfl, rfl⟩
theorem sorts_any (B g n c : Nat) (d : List Dg) (w : World) (h : Row B g n c w d) (h1 : 1 ≤ n) (hn : n ≤ 30) :
    Calls Try.prog 24 #[.slice (some ⟨g, 0, none⟩) n c, .func (.func 25) #[] #[]] w fun e w' => Sorts B g n c [] d [] w e w' := by
  have HI := Lib.hid (stable_any B g n c d w h h1 hn)
  clear h
  go_enter Try.func24, Try.ntmps24
  go_wp2_with fail
  refine HI.out.mono ?_
  rintro e w' ⟨rfl, g1, hW⟩
  have HW := Lib.hid hW
  clear hW
  go_wp2_with fail
  go_end0
  exact ⟨rfl, g1, HW.out⟩
/-- A copy: nothing, or a row of its own. -/
def Cloned (w : World) (n : Nat) (L : List Dg) (e : Ending) (w' : World) : Prop := Kept w w' ∧ ((n = 0 ∧ ∃ VA VC, e = .returned (.slice VA 0 VC) ∧ VC ≤ 9223372036854775807) ∨ (1 ≤ n ∧ ∃ g VC, e = .returned (.slice (some ⟨g, 0, none⟩) n VC) ∧ Row w.heap.size g n VC w' L))
theorem clone_any (A : Option Addr) (n c : Nat) (L : List Dg) (w : World) (h : Sl w 3 A n c (L.flatMap Dg.cells)) (hn : n ≤ 30) :
    Calls Try.prog 23 #[.slice A n c] w fun e w' => Cloned w n L e w' := by
  have hnil := fun w' => Lib.run_eql_slice_nil (P := Try.prog) w' 48 52 A n c 0 0 Try.underlying48
  cases A with
  | none =>
    have h0 : n = 0 := by
      rcases Nat.eq_zero_or_pos n with h0 | h0
      · exact h0
      · obtain ⟨b, o, e, _⟩ := h.at_ h0
        cases e
    subst h0
    go_enter Try.func23, Try.ntmps23
    go_wp2_with fail
    go_ret
    exact ⟨Kept.refl _, .inl ⟨rfl, none, 0, rfl, by omega⟩⟩
  | some a =>
    have hown := own_lit (w := w) (base := w.heap.size) (e := 52) (size := 3) (n := 0) (cs := []) (by rfl) (by omega) (Nat.le_refl _)
    have hk0 := (Kept.refl w).alloc (.cells #[] 52)
    have HO := Lib.hid (dgs_one L)
    go_enter Try.func23, Try.ntmps23
    go_wp2_with (at_builtin; refine wpList_appk w (by rfl) _ _ (by rfl) appT_dgs (by rfl) hown hk0 (by rfl) (h.kept hk0) ?_ ?_; (exact ⟨HO.out, by omega⟩); (intro v' w' hown' hk' hgr hob))
    go_ret
    refine ⟨hk', ?_⟩
    rw [Nat.zero_add, List.nil_append] at hown'
    rcases Nat.eq_zero_or_pos n with h0 | h0
    · subst h0
      obtain ⟨VA, VC, rfl, hs⟩ := Sl.of_own hown'
      exact .inl ⟨rfl, VA, VC, rfl, hs.max⟩
    · have hr := hown'
      rcases hown'.2 with ⟨rfl, h1⟩ | ⟨g, cap, cur, rfl, _⟩
      · omega
      · exact .inr ⟨h0, g, cap, rfl, hr⟩
/-- Sorted: the same things in order. -/
def SortedTo (w : World) (n : Nat) (L : List Dg) (e : Ending) (w' : World) : Prop := Kept w w' ∧ ∃ VA VC W, e = .returned (.slice VA n VC) ∧ Sl w' 3 VA n VC (W.flatMap Dg.cells) ∧ W.Perm L ∧ InOrder ltD W
theorem sorted_any (A : Option Addr) (n c : Nat) (L : List Dg) (w : World) (h : Sl w 3 A n c (L.flatMap Dg.cells)) (hn : n ≤ 30) :
    Calls Try.prog 19 #[.slice A n c] w fun e w' => SortedTo w n L e w' := by
  have hl := h.llen (enc := Dg.cells) (fun _ => rfl) (by omega)
  have HC := Lib.hid (clone_any A n c L w h hn)
  clear h
  go_enter Try.func19, Try.ntmps19
  go_wp2_with fail
  refine HC.out.mono ?_
  rintro e w1 ⟨hk1, ⟨h0, VA, VC, rfl, hvc⟩ | ⟨h0, g, VC, rfl, hr⟩⟩
  · subst h0
    have HS := Lib.hid (sorts0_any VA VC (.func (.func 25) #[] #[]) w1)
    obtain rfl : L = [] := List.eq_nil_of_length_eq_zero hl
    go_wp2_with fail
    refine HS.out.mono ?_
    rintro e w2 ⟨rfl, rfl⟩
    go_wp2_with fail
    go_ret
    exact ⟨hk1, VA, VC, [], rfl, ⟨rfl, Nat.zero_le _, hvc, fun h => absurd h (Nat.lt_irrefl _)⟩, List.Perm.refl _, List.Pairwise.nil⟩
  · have HS := Lib.hid (sorts_any w.heap.size g n VC L w1 hr h0 hn)
    have hg := hr.lt.2
    clear hr hl
    go_wp2_with fail
    refine HS.out.mono ?_
    rintro e w2 ⟨rfl, g2, W, hp, ho, hr⟩
    have hk2 := hk1.grown g2 (fun k hk => by injection hk with hk; rw [← hk]; exact hg)
    have HR := Lib.hid (show W.Perm L ∧ InOrder ltD W ∧ Row w.heap.size g n VC w2 W from ⟨hp, ho, by simpa using hr⟩)
    clear hp ho hr g2
    go_wp2_with fail
    go_ret
    exact ⟨hk2, _, VC, W, rfl, HR.out.2.2.sl, HR.out.1, HR.out.2.1⟩
end Go.Proofs.Ytdcigdkeakiknaa
