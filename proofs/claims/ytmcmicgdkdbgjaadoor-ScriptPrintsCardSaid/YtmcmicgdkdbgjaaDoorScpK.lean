/- A step that is not too long: the laws' Short and Ours, walked (printed by wip/gen/gen_scpk.py). -/
import Derived.Test.YtmcmicgdkdbgjaaDoorScpJ
namespace Go.Proofs.YtmcmicgdkdbgjaaDoor
open Go.RowKit
attribute [local go_sem ↓] Go.wp_at_zero Go.wp_at_succ

def opSet6 (w : World) (gr : Nat) (v0 v1 v2 v3 v4 v5 : Value) : World := (((((w.setCell ⟨gr, 0, none⟩ v0).setCell ⟨gr, 1, none⟩ v1).setCell ⟨gr, 2, none⟩ v2).setCell ⟨gr, 3, none⟩ v3).setCell ⟨gr, 4, none⟩ v4).setCell ⟨gr, 5, none⟩ v5
theorem op6 {w w1 w9 : World} {gr : Nat} {z0 z1 z2 z3 z4 z5 v0 v1 v2 v3 v4 v5 : Value} {ty : TypeId} (hb : Blk w1 gr #[z0, z1, z2, z3, z4, z5] ty) (hk : Kept w w1) (hlo : w.heap.size ≤ gr) (h : w9 = opSet6 w1 gr v0 v1 v2 v3 v4 v5) : Blk w9 gr #[v0, v1, v2, v3, v4, v5] ty ∧ Kept w w9 := by
  subst h
  exact ⟨(((((hb.set 0 _).set 1 _).set 2 _).set 3 _).set 4 _).set 5 _, (((((hk.setCell hlo _).setCell hlo _).setCell hlo _).setCell hlo _).setCell hlo _).setCell hlo _⟩
theorem Blk.other {w : World} {g g' : Nat} {cs : Array Value} {ty : TypeId} (h : Blk w g' cs ty) (i : Nat) (u : Value) (hne : g ≠ g') : Blk (w.setCell ⟨g, i, none⟩ u) g' cs ty :=
  Blk.grown h (grown_setCell w ⟨g, i, none⟩ u) (fun e => hne (Option.some.inj e).symm)
def sh6 (m : Nat) : Nat := if 6 < m then 6 else m
def sh40 (a : ByteArray) : ByteArray := if 40 < a.size then a.extract 0 40 else a
def sh100 (t : ByteArray) : ByteArray := if 100 < t.size then t.extract 0 100 else t
set_option maxRecDepth 100000 in
set_option maxHeartbeats 16000000 in
theorem short24_a (k : Int) (A : Option Addr) (m c : Nat) (p : List Int) (B : Option Addr) (n d : Nat) (q : List Int) (N : Int) (a t : ByteArray) (w : World) (hA : Sl w 1 A m c (p.map intV)) (hB : Sl w 1 B n d (q.map intV)) (h0 : 6 < m) :
    Calls Tryd.prog 16 #[.agg #[.int .i64 k, .slice A m c, .slice B n d, .int .i64 N, .string a, .string t]] w fun e w' => e = .returned (.agg #[.int .i64 k, .slice A (sh6 m) c, .slice B (sh6 n) d, .int .i64 N, .string (sh40 a), .string (sh100 t)]) ∧ Kept w w' := by
  have hmc := hA.cap
  have hmm := hA.max
  have hnd := hB.cap
  have hdm := hB.max
  have hA1 : 6 < m → ∃ b o, A = some ⟨b, o, none⟩ := fun h => by
    obtain ⟨b, o, e, _⟩ := hA.at_ (by omega)
    exact ⟨b, o, e⟩
  have hB1 : 6 < n → ∃ b o, B = some ⟨b, o, none⟩ := fun h => by
    obtain ⟨b, o, e, _⟩ := hB.at_ (by omega)
    exact ⟨b, o, e⟩
  obtain ⟨m6, hm6⟩ : ∃ m6, sh6 m = m6 := ⟨_, rfl⟩
  obtain ⟨n6, hn6⟩ : ∃ n6, sh6 n = n6 := ⟨_, rfl⟩
  obtain ⟨a4, ha4⟩ : ∃ a4, sh40 a = a4 := ⟨_, rfl⟩
  obtain ⟨t1, ht1⟩ : ∃ t1, sh100 t = t1 := ⟨_, rfl⟩
  have HR : Hid (∀ m' n' a' t', sh6 m = m' → sh6 n = n' → sh40 a = a' → sh100 t = t' → Ending.returned (.agg #[.int .i64 k, .slice A m' c, .slice B n' d, .int .i64 N, .string a', .string t']) = .returned (.agg #[.int .i64 k, .slice A m6 c, .slice B n6 d, .int .i64 N, .string a4, .string t1])) := by
    rintro m' n' a' t' rfl rfl rfl rfl
    rw [hm6, hn6, ha4, ht1]
  rw [hm6, hn6, ha4, ht1]
  clear hm6 hn6 ha4 ht1
  have k0 : Kept w _ := ((Kept.refl w).alloc (.cells #[.int .i64 k, .slice A m c, .slice B n d, .int .i64 N, .string a, .string t] 38)).alloc (.cells #[.int .i64 0, .slice none 0 0, .slice none 0 0, .int .i64 0, .string ⟨#[]⟩, .string ⟨#[]⟩] 38)
  have b1 := (Blk.new w #[.int .i64 k, .slice A m c, .slice B n d, .int .i64 N, .string a, .string t] 38).alloc (.cells #[.int .i64 0, .slice none 0 0, .slice none 0 0, .int .i64 0, .string ⟨#[]⟩, .string ⟨#[]⟩] 38)
  have b2 := Blk.new (w.alloc (.cells #[.int .i64 k, .slice A m c, .slice B n d, .int .i64 N, .string a, .string t] 38)) #[.int .i64 0, .slice none 0 0, .slice none 0 0, .int .i64 0, .string ⟨#[]⟩, .string ⟨#[]⟩] 38
  clear hA hB
  go_enter Tryd.func16, Tryd.ntmps16
  go_upto_region 1 with fail
  generalize (w.alloc (.cells #[.int .i64 k, .slice A m c, .slice B n d, .int .i64 N, .string a, .string t] 38)).alloc (.cells #[.int .i64 0, .slice none 0 0, .slice none 0 0, .int .i64 0, .string ⟨#[]⟩, .string ⟨#[]⟩] 38) = w1 at k0 b1 b2 ⊢
  have b2' : Blk w1 (w.heap.size + 1) #[.int .i64 0, .slice none 0 0, .slice none 0 0, .int .i64 0, .string ⟨#[]⟩, .string ⟨#[]⟩] 38 := by simpa using b2
  clear b2
  obtain ⟨gr, hgr⟩ : ∃ g2, w.heap.size + 1 = g2 := ⟨_, rfl⟩
  obtain ⟨g, hg⟩ : ∃ g1, w.heap.size = g1 := ⟨_, rfl⟩
  have hne : g ≠ gr := by omega
  have hlo : w.heap.size ≤ gr := by omega
  rw [hgr] at b2' ⊢
  rw [hg] at b1 ⊢
  have H0 : Hid (Blk w1 g #[.int .i64 k, .slice A m c, .slice B n d, .int .i64 N, .string a, .string t] 38 ∧ Blk w1 gr #[.int .i64 0, .slice none 0 0, .slice none 0 0, .int .i64 0, .string ⟨#[]⟩, .string ⟨#[]⟩] 38 ∧ Kept w w1) := ⟨b1, b2', k0⟩
  clear b1 b2' k0
  have bc := Blk.cell H0.out.1
  have z00 : w1.cell? ⟨g, 0, none⟩ = some (.int .i64 k) := bc 0
  have z01 : w1.cell? ⟨g, 1, none⟩ = some (.slice A m c) := bc 1
  have z02 : w1.cell? ⟨g, 2, none⟩ = some (.slice B n d) := bc 2
  have z03 : w1.cell? ⟨g, 3, none⟩ = some (.int .i64 N) := bc 3
  have z04 : w1.cell? ⟨g, 4, none⟩ = some (.string a) := bc 4
  have z05 : w1.cell? ⟨g, 5, none⟩ = some (.string t) := bc 5
  have fr := Blk.frozen H0.out.1
  have fs := Blk.frozen H0.out.2.1
  clear bc
  have l0 : (6 : Int) < m := by omega
  have c0 : Hid (sh6 m = 6) := if_pos h0
  have hA6 : (6 : Int) ≤ c := by omega
  go_upto_region 3 with fail
  refine wp_named ?_
  intro w1 hw1
  have H1 : Hid (Blk w1 g #[.int .i64 k, .slice A 6 c, .slice B n d, .int .i64 N, .string a, .string t] 38 ∧ Blk w1 gr #[.int .i64 0, .slice none 0 0, .slice none 0 0, .int .i64 0, .string ⟨#[]⟩, .string ⟨#[]⟩] 38 ∧ Kept w w1) := by
    rw [hw1]
    exact ⟨Blk.set H0.out.1 1 (.slice A 6 c), Blk.other H0.out.2.1 1 (.slice A 6 c) hne, H0.out.2.2.setCell (by show w.heap.size ≤ g; omega) _⟩
  clear hw1 z00 z01 z02 z03 z04 z05 fr fs l0
  have bc := Blk.cell H1.out.1
  have z10 : w1.cell? ⟨g, 0, none⟩ = some (.int .i64 k) := bc 0
  have z11 : w1.cell? ⟨g, 1, none⟩ = some (.slice A 6 c) := bc 1
  have z12 : w1.cell? ⟨g, 2, none⟩ = some (.slice B n d) := bc 2
  have z13 : w1.cell? ⟨g, 3, none⟩ = some (.int .i64 N) := bc 3
  have z14 : w1.cell? ⟨g, 4, none⟩ = some (.string a) := bc 4
  have z15 : w1.cell? ⟨g, 5, none⟩ = some (.string t) := bc 5
  have fr := Blk.frozen H1.out.1
  have fs := Blk.frozen H1.out.2.1
  clear bc
  by_cases h1 : 6 < n
  · have l1 : (6 : Int) < n := by omega
    have c1 : Hid (sh6 n = 6) := if_pos h1
    have hB6 : (6 : Int) ≤ d := by omega
    go_upto_region 5 with fail
    refine wp_named ?_
    intro w2 hw2
    have H2 : Hid (Blk w2 g #[.int .i64 k, .slice A 6 c, .slice B 6 d, .int .i64 N, .string a, .string t] 38 ∧ Blk w2 gr #[.int .i64 0, .slice none 0 0, .slice none 0 0, .int .i64 0, .string ⟨#[]⟩, .string ⟨#[]⟩] 38 ∧ Kept w w2) := by
      rw [hw2]
      exact ⟨Blk.set H1.out.1 2 (.slice B 6 d), Blk.other H1.out.2.1 2 (.slice B 6 d) hne, H1.out.2.2.setCell (by show w.heap.size ≤ g; omega) _⟩
    clear hw2 z10 z11 z12 z13 z14 z15 fr fs l1
    have bc := Blk.cell H2.out.1
    have z20 : w2.cell? ⟨g, 0, none⟩ = some (.int .i64 k) := bc 0
    have z21 : w2.cell? ⟨g, 1, none⟩ = some (.slice A 6 c) := bc 1
    have z22 : w2.cell? ⟨g, 2, none⟩ = some (.slice B 6 d) := bc 2
    have z23 : w2.cell? ⟨g, 3, none⟩ = some (.int .i64 N) := bc 3
    have z24 : w2.cell? ⟨g, 4, none⟩ = some (.string a) := bc 4
    have z25 : w2.cell? ⟨g, 5, none⟩ = some (.string t) := bc 5
    have fr := Blk.frozen H2.out.1
    have fs := Blk.frozen H2.out.2.1
    clear bc
    by_cases h2 : 40 < a.size
    · have l2 : (40 : Int) < a.size := by omega
      have c2 : Hid (sh40 a = (a.extract 0 40)) := if_pos h2
      have hS4 : (40 : Int) ≤ a.size := by omega
      go_upto_region 7 with fail
      refine wp_named ?_
      intro w3 hw3
      have H3 : Hid (Blk w3 g #[.int .i64 k, .slice A 6 c, .slice B 6 d, .int .i64 N, .string (a.extract 0 40), .string t] 38 ∧ Blk w3 gr #[.int .i64 0, .slice none 0 0, .slice none 0 0, .int .i64 0, .string ⟨#[]⟩, .string ⟨#[]⟩] 38 ∧ Kept w w3) := by
        rw [hw3]
        exact ⟨Blk.set H2.out.1 4 (.string (a.extract 0 40)), Blk.other H2.out.2.1 4 (.string (a.extract 0 40)) hne, H2.out.2.2.setCell (by show w.heap.size ≤ g; omega) _⟩
      clear hw3 z20 z21 z22 z23 z24 z25 fr fs l2
      have bc := Blk.cell H3.out.1
      have z30 : w3.cell? ⟨g, 0, none⟩ = some (.int .i64 k) := bc 0
      have z31 : w3.cell? ⟨g, 1, none⟩ = some (.slice A 6 c) := bc 1
      have z32 : w3.cell? ⟨g, 2, none⟩ = some (.slice B 6 d) := bc 2
      have z33 : w3.cell? ⟨g, 3, none⟩ = some (.int .i64 N) := bc 3
      have z34 : w3.cell? ⟨g, 4, none⟩ = some (.string (a.extract 0 40)) := bc 4
      have z35 : w3.cell? ⟨g, 5, none⟩ = some (.string t) := bc 5
      have fr := Blk.frozen H3.out.1
      have fs := Blk.frozen H3.out.2.1
      clear bc
      by_cases h3 : 100 < t.size
      · have l3 : (100 : Int) < t.size := by omega
        have c3 : Hid (sh100 t = (t.extract 0 100)) := if_pos h3
        have hS5 : (100 : Int) ≤ t.size := by omega
        go_upto_region 9 with fail
        refine wp_named ?_
        intro w4 hw4
        have H4 : Hid (Blk w4 g #[.int .i64 k, .slice A 6 c, .slice B 6 d, .int .i64 N, .string (a.extract 0 40), .string (t.extract 0 100)] 38 ∧ Blk w4 gr #[.int .i64 0, .slice none 0 0, .slice none 0 0, .int .i64 0, .string ⟨#[]⟩, .string ⟨#[]⟩] 38 ∧ Kept w w4) := by
          rw [hw4]
          exact ⟨Blk.set H3.out.1 5 (.string (t.extract 0 100)), Blk.other H3.out.2.1 5 (.string (t.extract 0 100)) hne, H3.out.2.2.setCell (by show w.heap.size ≤ g; omega) _⟩
        clear hw4 z30 z31 z32 z33 z34 z35 fr fs l3
        have bc := Blk.cell H4.out.1
        have z40 : w4.cell? ⟨g, 0, none⟩ = some (.int .i64 k) := bc 0
        have z41 : w4.cell? ⟨g, 1, none⟩ = some (.slice A 6 c) := bc 1
        have z42 : w4.cell? ⟨g, 2, none⟩ = some (.slice B 6 d) := bc 2
        have z43 : w4.cell? ⟨g, 3, none⟩ = some (.int .i64 N) := bc 3
        have z44 : w4.cell? ⟨g, 4, none⟩ = some (.string (a.extract 0 40)) := bc 4
        have z45 : w4.cell? ⟨g, 5, none⟩ = some (.string (t.extract 0 100)) := bc 5
        have fr := Blk.frozen H4.out.1
        have fs := Blk.frozen H4.out.2.1
        clear bc
        clear h0 h1 h2 h3
        have bd := Blk.cell H4.out.2.1
        have v0 : w4.cell? ⟨gr, 0, none⟩ = some (.int .i64 0) := bd 0
        have v1 : w4.cell? ⟨gr, 1, none⟩ = some (.slice none 0 0) := bd 1
        have v2 : w4.cell? ⟨gr, 2, none⟩ = some (.slice none 0 0) := bd 2
        have v3 : w4.cell? ⟨gr, 3, none⟩ = some (.int .i64 0) := bd 3
        have v4 : w4.cell? ⟨gr, 4, none⟩ = some (.string ⟨#[]⟩) := bd 4
        have v5 : w4.cell? ⟨gr, 5, none⟩ = some (.string ⟨#[]⟩) := bd 5
        clear bd
        go_wp2_with fail
        refine body_named ?_
        intro w9 hw9
        have e9 : w9 = opSet6 w4 gr (.int .i64 k) (.slice A 6 c) (.slice B 6 d) (.int .i64 N) (.string (a.extract 0 40)) (.string (t.extract 0 100)) := hw9
        have h9 := op6 H4.out.2.1 H4.out.2.2 hlo e9
        have bz := Blk.cell h9.1
        have y0 : w9.cell? ⟨gr, 0, none⟩ = some (.int .i64 k) := bz 0
        have y1 : w9.cell? ⟨gr, 1, none⟩ = some (.slice A 6 c) := bz 1
        have y2 : w9.cell? ⟨gr, 2, none⟩ = some (.slice B 6 d) := bz 2
        have y3 : w9.cell? ⟨gr, 3, none⟩ = some (.int .i64 N) := bz 3
        have y4 : w9.cell? ⟨gr, 4, none⟩ = some (.string (a.extract 0 40)) := bz 4
        have y5 : w9.cell? ⟨gr, 5, none⟩ = some (.string (t.extract 0 100)) := bz 5
        clear bz hw9 e9 fr fs
        refine bodyPost_ret (v := .agg #[.int .i64 k, .slice A 6 c, .slice B 6 d, .int .i64 N, .string (a.extract 0 40), .string (t.extract 0 100)]) (by simp [results, Tryd.results16, go_sem, y0, y1, y2, y3, y4, y5]) rfl ⟨?_, h9.2⟩
        exact HR.out _ _ _ _ c0.out c1.out c2.out c3.out
      · have l3 : ¬ (100 : Int) < t.size := by omega
        have c3 : Hid (sh100 t = t) := if_neg h3
        clear h0 h1 h2 h3
        have bd := Blk.cell H3.out.2.1
        have v0 : w3.cell? ⟨gr, 0, none⟩ = some (.int .i64 0) := bd 0
        have v1 : w3.cell? ⟨gr, 1, none⟩ = some (.slice none 0 0) := bd 1
        have v2 : w3.cell? ⟨gr, 2, none⟩ = some (.slice none 0 0) := bd 2
        have v3 : w3.cell? ⟨gr, 3, none⟩ = some (.int .i64 0) := bd 3
        have v4 : w3.cell? ⟨gr, 4, none⟩ = some (.string ⟨#[]⟩) := bd 4
        have v5 : w3.cell? ⟨gr, 5, none⟩ = some (.string ⟨#[]⟩) := bd 5
        clear bd
        go_wp2_with fail
        refine body_named ?_
        intro w9 hw9
        have e9 : w9 = opSet6 w3 gr (.int .i64 k) (.slice A 6 c) (.slice B 6 d) (.int .i64 N) (.string (a.extract 0 40)) (.string t) := hw9
        have h9 := op6 H3.out.2.1 H3.out.2.2 hlo e9
        have bz := Blk.cell h9.1
        have y0 : w9.cell? ⟨gr, 0, none⟩ = some (.int .i64 k) := bz 0
        have y1 : w9.cell? ⟨gr, 1, none⟩ = some (.slice A 6 c) := bz 1
        have y2 : w9.cell? ⟨gr, 2, none⟩ = some (.slice B 6 d) := bz 2
        have y3 : w9.cell? ⟨gr, 3, none⟩ = some (.int .i64 N) := bz 3
        have y4 : w9.cell? ⟨gr, 4, none⟩ = some (.string (a.extract 0 40)) := bz 4
        have y5 : w9.cell? ⟨gr, 5, none⟩ = some (.string t) := bz 5
        clear bz hw9 e9 fr fs
        refine bodyPost_ret (v := .agg #[.int .i64 k, .slice A 6 c, .slice B 6 d, .int .i64 N, .string (a.extract 0 40), .string t]) (by simp [results, Tryd.results16, go_sem, y0, y1, y2, y3, y4, y5]) rfl ⟨?_, h9.2⟩
        exact HR.out _ _ _ _ c0.out c1.out c2.out c3.out
    · have l2 : ¬ (40 : Int) < a.size := by omega
      have c2 : Hid (sh40 a = a) := if_neg h2
      by_cases h3 : 100 < t.size
      · have l3 : (100 : Int) < t.size := by omega
        have c3 : Hid (sh100 t = (t.extract 0 100)) := if_pos h3
        have hS5 : (100 : Int) ≤ t.size := by omega
        go_upto_region 9 with fail
        refine wp_named ?_
        intro w5 hw5
        have H5 : Hid (Blk w5 g #[.int .i64 k, .slice A 6 c, .slice B 6 d, .int .i64 N, .string a, .string (t.extract 0 100)] 38 ∧ Blk w5 gr #[.int .i64 0, .slice none 0 0, .slice none 0 0, .int .i64 0, .string ⟨#[]⟩, .string ⟨#[]⟩] 38 ∧ Kept w w5) := by
          rw [hw5]
          exact ⟨Blk.set H2.out.1 5 (.string (t.extract 0 100)), Blk.other H2.out.2.1 5 (.string (t.extract 0 100)) hne, H2.out.2.2.setCell (by show w.heap.size ≤ g; omega) _⟩
        clear hw5 z20 z21 z22 z23 z24 z25 fr fs l3
        have bc := Blk.cell H5.out.1
        have z50 : w5.cell? ⟨g, 0, none⟩ = some (.int .i64 k) := bc 0
        have z51 : w5.cell? ⟨g, 1, none⟩ = some (.slice A 6 c) := bc 1
        have z52 : w5.cell? ⟨g, 2, none⟩ = some (.slice B 6 d) := bc 2
        have z53 : w5.cell? ⟨g, 3, none⟩ = some (.int .i64 N) := bc 3
        have z54 : w5.cell? ⟨g, 4, none⟩ = some (.string a) := bc 4
        have z55 : w5.cell? ⟨g, 5, none⟩ = some (.string (t.extract 0 100)) := bc 5
        have fr := Blk.frozen H5.out.1
        have fs := Blk.frozen H5.out.2.1
        clear bc
        clear h0 h1 h2 h3
        have bd := Blk.cell H5.out.2.1
        have v0 : w5.cell? ⟨gr, 0, none⟩ = some (.int .i64 0) := bd 0
        have v1 : w5.cell? ⟨gr, 1, none⟩ = some (.slice none 0 0) := bd 1
        have v2 : w5.cell? ⟨gr, 2, none⟩ = some (.slice none 0 0) := bd 2
        have v3 : w5.cell? ⟨gr, 3, none⟩ = some (.int .i64 0) := bd 3
        have v4 : w5.cell? ⟨gr, 4, none⟩ = some (.string ⟨#[]⟩) := bd 4
        have v5 : w5.cell? ⟨gr, 5, none⟩ = some (.string ⟨#[]⟩) := bd 5
        clear bd
        go_wp2_with fail
        refine body_named ?_
        intro w9 hw9
        have e9 : w9 = opSet6 w5 gr (.int .i64 k) (.slice A 6 c) (.slice B 6 d) (.int .i64 N) (.string a) (.string (t.extract 0 100)) := hw9
        have h9 := op6 H5.out.2.1 H5.out.2.2 hlo e9
        have bz := Blk.cell h9.1
        have y0 : w9.cell? ⟨gr, 0, none⟩ = some (.int .i64 k) := bz 0
        have y1 : w9.cell? ⟨gr, 1, none⟩ = some (.slice A 6 c) := bz 1
        have y2 : w9.cell? ⟨gr, 2, none⟩ = some (.slice B 6 d) := bz 2
        have y3 : w9.cell? ⟨gr, 3, none⟩ = some (.int .i64 N) := bz 3
        have y4 : w9.cell? ⟨gr, 4, none⟩ = some (.string a) := bz 4
        have y5 : w9.cell? ⟨gr, 5, none⟩ = some (.string (t.extract 0 100)) := bz 5
        clear bz hw9 e9 fr fs
        refine bodyPost_ret (v := .agg #[.int .i64 k, .slice A 6 c, .slice B 6 d, .int .i64 N, .string a, .string (t.extract 0 100)]) (by simp [results, Tryd.results16, go_sem, y0, y1, y2, y3, y4, y5]) rfl ⟨?_, h9.2⟩
        exact HR.out _ _ _ _ c0.out c1.out c2.out c3.out
      · have l3 : ¬ (100 : Int) < t.size := by omega
        have c3 : Hid (sh100 t = t) := if_neg h3
        clear h0 h1 h2 h3
        have bd := Blk.cell H2.out.2.1
        have v0 : w2.cell? ⟨gr, 0, none⟩ = some (.int .i64 0) := bd 0
        have v1 : w2.cell? ⟨gr, 1, none⟩ = some (.slice none 0 0) := bd 1
        have v2 : w2.cell? ⟨gr, 2, none⟩ = some (.slice none 0 0) := bd 2
        have v3 : w2.cell? ⟨gr, 3, none⟩ = some (.int .i64 0) := bd 3
        have v4 : w2.cell? ⟨gr, 4, none⟩ = some (.string ⟨#[]⟩) := bd 4
        have v5 : w2.cell? ⟨gr, 5, none⟩ = some (.string ⟨#[]⟩) := bd 5
        clear bd
        go_wp2_with fail
        refine body_named ?_
        intro w9 hw9
        have e9 : w9 = opSet6 w2 gr (.int .i64 k) (.slice A 6 c) (.slice B 6 d) (.int .i64 N) (.string a) (.string t) := hw9
        have h9 := op6 H2.out.2.1 H2.out.2.2 hlo e9
        have bz := Blk.cell h9.1
        have y0 : w9.cell? ⟨gr, 0, none⟩ = some (.int .i64 k) := bz 0
        have y1 : w9.cell? ⟨gr, 1, none⟩ = some (.slice A 6 c) := bz 1
        have y2 : w9.cell? ⟨gr, 2, none⟩ = some (.slice B 6 d) := bz 2
        have y3 : w9.cell? ⟨gr, 3, none⟩ = some (.int .i64 N) := bz 3
        have y4 : w9.cell? ⟨gr, 4, none⟩ = some (.string a) := bz 4
        have y5 : w9.cell? ⟨gr, 5, none⟩ = some (.string t) := bz 5
        clear bz hw9 e9 fr fs
        refine bodyPost_ret (v := .agg #[.int .i64 k, .slice A 6 c, .slice B 6 d, .int .i64 N, .string a, .string t]) (by simp [results, Tryd.results16, go_sem, y0, y1, y2, y3, y4, y5]) rfl ⟨?_, h9.2⟩
        exact HR.out _ _ _ _ c0.out c1.out c2.out c3.out
  · have l1 : ¬ (6 : Int) < n := by omega
    have c1 : Hid (sh6 n = n) := if_neg h1
    by_cases h2 : 40 < a.size
    · have l2 : (40 : Int) < a.size := by omega
      have c2 : Hid (sh40 a = (a.extract 0 40)) := if_pos h2
      have hS4 : (40 : Int) ≤ a.size := by omega
      go_upto_region 7 with fail
      refine wp_named ?_
      intro w6 hw6
      have H6 : Hid (Blk w6 g #[.int .i64 k, .slice A 6 c, .slice B n d, .int .i64 N, .string (a.extract 0 40), .string t] 38 ∧ Blk w6 gr #[.int .i64 0, .slice none 0 0, .slice none 0 0, .int .i64 0, .string ⟨#[]⟩, .string ⟨#[]⟩] 38 ∧ Kept w w6) := by
        rw [hw6]
        exact ⟨Blk.set H1.out.1 4 (.string (a.extract 0 40)), Blk.other H1.out.2.1 4 (.string (a.extract 0 40)) hne, H1.out.2.2.setCell (by show w.heap.size ≤ g; omega) _⟩
      clear hw6 z10 z11 z12 z13 z14 z15 fr fs l2
      have bc := Blk.cell H6.out.1
      have z60 : w6.cell? ⟨g, 0, none⟩ = some (.int .i64 k) := bc 0
      have z61 : w6.cell? ⟨g, 1, none⟩ = some (.slice A 6 c) := bc 1
      have z62 : w6.cell? ⟨g, 2, none⟩ = some (.slice B n d) := bc 2
      have z63 : w6.cell? ⟨g, 3, none⟩ = some (.int .i64 N) := bc 3
      have z64 : w6.cell? ⟨g, 4, none⟩ = some (.string (a.extract 0 40)) := bc 4
      have z65 : w6.cell? ⟨g, 5, none⟩ = some (.string t) := bc 5
      have fr := Blk.frozen H6.out.1
      have fs := Blk.frozen H6.out.2.1
      clear bc
      by_cases h3 : 100 < t.size
      · have l3 : (100 : Int) < t.size := by omega
        have c3 : Hid (sh100 t = (t.extract 0 100)) := if_pos h3
        have hS5 : (100 : Int) ≤ t.size := by omega
        go_upto_region 9 with fail
        refine wp_named ?_
        intro w7 hw7
        have H7 : Hid (Blk w7 g #[.int .i64 k, .slice A 6 c, .slice B n d, .int .i64 N, .string (a.extract 0 40), .string (t.extract 0 100)] 38 ∧ Blk w7 gr #[.int .i64 0, .slice none 0 0, .slice none 0 0, .int .i64 0, .string ⟨#[]⟩, .string ⟨#[]⟩] 38 ∧ Kept w w7) := by
          rw [hw7]
          exact ⟨Blk.set H6.out.1 5 (.string (t.extract 0 100)), Blk.other H6.out.2.1 5 (.string (t.extract 0 100)) hne, H6.out.2.2.setCell (by show w.heap.size ≤ g; omega) _⟩
        clear hw7 z60 z61 z62 z63 z64 z65 fr fs l3
        have bc := Blk.cell H7.out.1
        have z70 : w7.cell? ⟨g, 0, none⟩ = some (.int .i64 k) := bc 0
        have z71 : w7.cell? ⟨g, 1, none⟩ = some (.slice A 6 c) := bc 1
        have z72 : w7.cell? ⟨g, 2, none⟩ = some (.slice B n d) := bc 2
        have z73 : w7.cell? ⟨g, 3, none⟩ = some (.int .i64 N) := bc 3
        have z74 : w7.cell? ⟨g, 4, none⟩ = some (.string (a.extract 0 40)) := bc 4
        have z75 : w7.cell? ⟨g, 5, none⟩ = some (.string (t.extract 0 100)) := bc 5
        have fr := Blk.frozen H7.out.1
        have fs := Blk.frozen H7.out.2.1
        clear bc
        clear h0 h1 h2 h3
        have bd := Blk.cell H7.out.2.1
        have v0 : w7.cell? ⟨gr, 0, none⟩ = some (.int .i64 0) := bd 0
        have v1 : w7.cell? ⟨gr, 1, none⟩ = some (.slice none 0 0) := bd 1
        have v2 : w7.cell? ⟨gr, 2, none⟩ = some (.slice none 0 0) := bd 2
        have v3 : w7.cell? ⟨gr, 3, none⟩ = some (.int .i64 0) := bd 3
        have v4 : w7.cell? ⟨gr, 4, none⟩ = some (.string ⟨#[]⟩) := bd 4
        have v5 : w7.cell? ⟨gr, 5, none⟩ = some (.string ⟨#[]⟩) := bd 5
        clear bd
        go_wp2_with fail
        refine body_named ?_
        intro w9 hw9
        have e9 : w9 = opSet6 w7 gr (.int .i64 k) (.slice A 6 c) (.slice B n d) (.int .i64 N) (.string (a.extract 0 40)) (.string (t.extract 0 100)) := hw9
        have h9 := op6 H7.out.2.1 H7.out.2.2 hlo e9
        have bz := Blk.cell h9.1
        have y0 : w9.cell? ⟨gr, 0, none⟩ = some (.int .i64 k) := bz 0
        have y1 : w9.cell? ⟨gr, 1, none⟩ = some (.slice A 6 c) := bz 1
        have y2 : w9.cell? ⟨gr, 2, none⟩ = some (.slice B n d) := bz 2
        have y3 : w9.cell? ⟨gr, 3, none⟩ = some (.int .i64 N) := bz 3
        have y4 : w9.cell? ⟨gr, 4, none⟩ = some (.string (a.extract 0 40)) := bz 4
        have y5 : w9.cell? ⟨gr, 5, none⟩ = some (.string (t.extract 0 100)) := bz 5
        clear bz hw9 e9 fr fs
        refine bodyPost_ret (v := .agg #[.int .i64 k, .slice A 6 c, .slice B n d, .int .i64 N, .string (a.extract 0 40), .string (t.extract 0 100)]) (by simp [results, Tryd.results16, go_sem, y0, y1, y2, y3, y4, y5]) rfl ⟨?_, h9.2⟩
        exact HR.out _ _ _ _ c0.out c1.out c2.out c3.out
      · have l3 : ¬ (100 : Int) < t.size := by omega
        have c3 : Hid (sh100 t = t) := if_neg h3
        clear h0 h1 h2 h3
        have bd := Blk.cell H6.out.2.1
        have v0 : w6.cell? ⟨gr, 0, none⟩ = some (.int .i64 0) := bd 0
        have v1 : w6.cell? ⟨gr, 1, none⟩ = some (.slice none 0 0) := bd 1
        have v2 : w6.cell? ⟨gr, 2, none⟩ = some (.slice none 0 0) := bd 2
        have v3 : w6.cell? ⟨gr, 3, none⟩ = some (.int .i64 0) := bd 3
        have v4 : w6.cell? ⟨gr, 4, none⟩ = some (.string ⟨#[]⟩) := bd 4
        have v5 : w6.cell? ⟨gr, 5, none⟩ = some (.string ⟨#[]⟩) := bd 5
        clear bd
        go_wp2_with fail
        refine body_named ?_
        intro w9 hw9
        have e9 : w9 = opSet6 w6 gr (.int .i64 k) (.slice A 6 c) (.slice B n d) (.int .i64 N) (.string (a.extract 0 40)) (.string t) := hw9
        have h9 := op6 H6.out.2.1 H6.out.2.2 hlo e9
        have bz := Blk.cell h9.1
        have y0 : w9.cell? ⟨gr, 0, none⟩ = some (.int .i64 k) := bz 0
        have y1 : w9.cell? ⟨gr, 1, none⟩ = some (.slice A 6 c) := bz 1
        have y2 : w9.cell? ⟨gr, 2, none⟩ = some (.slice B n d) := bz 2
        have y3 : w9.cell? ⟨gr, 3, none⟩ = some (.int .i64 N) := bz 3
        have y4 : w9.cell? ⟨gr, 4, none⟩ = some (.string (a.extract 0 40)) := bz 4
        have y5 : w9.cell? ⟨gr, 5, none⟩ = some (.string t) := bz 5
        clear bz hw9 e9 fr fs
        refine bodyPost_ret (v := .agg #[.int .i64 k, .slice A 6 c, .slice B n d, .int .i64 N, .string (a.extract 0 40), .string t]) (by simp [results, Tryd.results16, go_sem, y0, y1, y2, y3, y4, y5]) rfl ⟨?_, h9.2⟩
        exact HR.out _ _ _ _ c0.out c1.out c2.out c3.out
    · have l2 : ¬ (40 : Int) < a.size := by omega
      have c2 : Hid (sh40 a = a) := if_neg h2
      by_cases h3 : 100 < t.size
      · have l3 : (100 : Int) < t.size := by omega
        have c3 : Hid (sh100 t = (t.extract 0 100)) := if_pos h3
        have hS5 : (100 : Int) ≤ t.size := by omega
        go_upto_region 9 with fail
        refine wp_named ?_
        intro w8 hw8
        have H8 : Hid (Blk w8 g #[.int .i64 k, .slice A 6 c, .slice B n d, .int .i64 N, .string a, .string (t.extract 0 100)] 38 ∧ Blk w8 gr #[.int .i64 0, .slice none 0 0, .slice none 0 0, .int .i64 0, .string ⟨#[]⟩, .string ⟨#[]⟩] 38 ∧ Kept w w8) := by
          rw [hw8]
          exact ⟨Blk.set H1.out.1 5 (.string (t.extract 0 100)), Blk.other H1.out.2.1 5 (.string (t.extract 0 100)) hne, H1.out.2.2.setCell (by show w.heap.size ≤ g; omega) _⟩
        clear hw8 z10 z11 z12 z13 z14 z15 fr fs l3
        have bc := Blk.cell H8.out.1
        have z80 : w8.cell? ⟨g, 0, none⟩ = some (.int .i64 k) := bc 0
        have z81 : w8.cell? ⟨g, 1, none⟩ = some (.slice A 6 c) := bc 1
        have z82 : w8.cell? ⟨g, 2, none⟩ = some (.slice B n d) := bc 2
        have z83 : w8.cell? ⟨g, 3, none⟩ = some (.int .i64 N) := bc 3
        have z84 : w8.cell? ⟨g, 4, none⟩ = some (.string a) := bc 4
        have z85 : w8.cell? ⟨g, 5, none⟩ = some (.string (t.extract 0 100)) := bc 5
        have fr := Blk.frozen H8.out.1
        have fs := Blk.frozen H8.out.2.1
        clear bc
        clear h0 h1 h2 h3
        have bd := Blk.cell H8.out.2.1
        have v0 : w8.cell? ⟨gr, 0, none⟩ = some (.int .i64 0) := bd 0
        have v1 : w8.cell? ⟨gr, 1, none⟩ = some (.slice none 0 0) := bd 1
        have v2 : w8.cell? ⟨gr, 2, none⟩ = some (.slice none 0 0) := bd 2
        have v3 : w8.cell? ⟨gr, 3, none⟩ = some (.int .i64 0) := bd 3
        have v4 : w8.cell? ⟨gr, 4, none⟩ = some (.string ⟨#[]⟩) := bd 4
        have v5 : w8.cell? ⟨gr, 5, none⟩ = some (.string ⟨#[]⟩) := bd 5
        clear bd
        go_wp2_with fail
        refine body_named ?_
        intro w9 hw9
        have e9 : w9 = opSet6 w8 gr (.int .i64 k) (.slice A 6 c) (.slice B n d) (.int .i64 N) (.string a) (.string (t.extract 0 100)) := hw9
        have h9 := op6 H8.out.2.1 H8.out.2.2 hlo e9
        have bz := Blk.cell h9.1
        have y0 : w9.cell? ⟨gr, 0, none⟩ = some (.int .i64 k) := bz 0
        have y1 : w9.cell? ⟨gr, 1, none⟩ = some (.slice A 6 c) := bz 1
        have y2 : w9.cell? ⟨gr, 2, none⟩ = some (.slice B n d) := bz 2
        have y3 : w9.cell? ⟨gr, 3, none⟩ = some (.int .i64 N) := bz 3
        have y4 : w9.cell? ⟨gr, 4, none⟩ = some (.string a) := bz 4
        have y5 : w9.cell? ⟨gr, 5, none⟩ = some (.string (t.extract 0 100)) := bz 5
        clear bz hw9 e9 fr fs
        refine bodyPost_ret (v := .agg #[.int .i64 k, .slice A 6 c, .slice B n d, .int .i64 N, .string a, .string (t.extract 0 100)]) (by simp [results, Tryd.results16, go_sem, y0, y1, y2, y3, y4, y5]) rfl ⟨?_, h9.2⟩
        exact HR.out _ _ _ _ c0.out c1.out c2.out c3.out
      · have l3 : ¬ (100 : Int) < t.size := by omega
        have c3 : Hid (sh100 t = t) := if_neg h3
        clear h0 h1 h2 h3
        have bd := Blk.cell H1.out.2.1
        have v0 : w1.cell? ⟨gr, 0, none⟩ = some (.int .i64 0) := bd 0
        have v1 : w1.cell? ⟨gr, 1, none⟩ = some (.slice none 0 0) := bd 1
        have v2 : w1.cell? ⟨gr, 2, none⟩ = some (.slice none 0 0) := bd 2
        have v3 : w1.cell? ⟨gr, 3, none⟩ = some (.int .i64 0) := bd 3
        have v4 : w1.cell? ⟨gr, 4, none⟩ = some (.string ⟨#[]⟩) := bd 4
        have v5 : w1.cell? ⟨gr, 5, none⟩ = some (.string ⟨#[]⟩) := bd 5
        clear bd
        go_wp2_with fail
        refine body_named ?_
        intro w9 hw9
        have e9 : w9 = opSet6 w1 gr (.int .i64 k) (.slice A 6 c) (.slice B n d) (.int .i64 N) (.string a) (.string t) := hw9
        have h9 := op6 H1.out.2.1 H1.out.2.2 hlo e9
        have bz := Blk.cell h9.1
        have y0 : w9.cell? ⟨gr, 0, none⟩ = some (.int .i64 k) := bz 0
        have y1 : w9.cell? ⟨gr, 1, none⟩ = some (.slice A 6 c) := bz 1
        have y2 : w9.cell? ⟨gr, 2, none⟩ = some (.slice B n d) := bz 2
        have y3 : w9.cell? ⟨gr, 3, none⟩ = some (.int .i64 N) := bz 3
        have y4 : w9.cell? ⟨gr, 4, none⟩ = some (.string a) := bz 4
        have y5 : w9.cell? ⟨gr, 5, none⟩ = some (.string t) := bz 5
        clear bz hw9 e9 fr fs
        refine bodyPost_ret (v := .agg #[.int .i64 k, .slice A 6 c, .slice B n d, .int .i64 N, .string a, .string t]) (by simp [results, Tryd.results16, go_sem, y0, y1, y2, y3, y4, y5]) rfl ⟨?_, h9.2⟩
        exact HR.out _ _ _ _ c0.out c1.out c2.out c3.out
set_option maxRecDepth 100000 in
set_option maxHeartbeats 16000000 in
theorem short24_b (k : Int) (A : Option Addr) (m c : Nat) (p : List Int) (B : Option Addr) (n d : Nat) (q : List Int) (N : Int) (a t : ByteArray) (w : World) (hA : Sl w 1 A m c (p.map intV)) (hB : Sl w 1 B n d (q.map intV)) (h0 : ¬ 6 < m) :
    Calls Tryd.prog 16 #[.agg #[.int .i64 k, .slice A m c, .slice B n d, .int .i64 N, .string a, .string t]] w fun e w' => e = .returned (.agg #[.int .i64 k, .slice A (sh6 m) c, .slice B (sh6 n) d, .int .i64 N, .string (sh40 a), .string (sh100 t)]) ∧ Kept w w' := by
  have hmc := hA.cap
  have hmm := hA.max
  have hnd := hB.cap
  have hdm := hB.max
  have hA1 : 6 < m → ∃ b o, A = some ⟨b, o, none⟩ := fun h => by
    obtain ⟨b, o, e, _⟩ := hA.at_ (by omega)
    exact ⟨b, o, e⟩
  have hB1 : 6 < n → ∃ b o, B = some ⟨b, o, none⟩ := fun h => by
    obtain ⟨b, o, e, _⟩ := hB.at_ (by omega)
    exact ⟨b, o, e⟩
  obtain ⟨m6, hm6⟩ : ∃ m6, sh6 m = m6 := ⟨_, rfl⟩
  obtain ⟨n6, hn6⟩ : ∃ n6, sh6 n = n6 := ⟨_, rfl⟩
  obtain ⟨a4, ha4⟩ : ∃ a4, sh40 a = a4 := ⟨_, rfl⟩
  obtain ⟨t1, ht1⟩ : ∃ t1, sh100 t = t1 := ⟨_, rfl⟩
  have HR : Hid (∀ m' n' a' t', sh6 m = m' → sh6 n = n' → sh40 a = a' → sh100 t = t' → Ending.returned (.agg #[.int .i64 k, .slice A m' c, .slice B n' d, .int .i64 N, .string a', .string t']) = .returned (.agg #[.int .i64 k, .slice A m6 c, .slice B n6 d, .int .i64 N, .string a4, .string t1])) := by
    rintro m' n' a' t' rfl rfl rfl rfl
    rw [hm6, hn6, ha4, ht1]
  rw [hm6, hn6, ha4, ht1]
  clear hm6 hn6 ha4 ht1
  have k0 : Kept w _ := ((Kept.refl w).alloc (.cells #[.int .i64 k, .slice A m c, .slice B n d, .int .i64 N, .string a, .string t] 38)).alloc (.cells #[.int .i64 0, .slice none 0 0, .slice none 0 0, .int .i64 0, .string ⟨#[]⟩, .string ⟨#[]⟩] 38)
  have b1 := (Blk.new w #[.int .i64 k, .slice A m c, .slice B n d, .int .i64 N, .string a, .string t] 38).alloc (.cells #[.int .i64 0, .slice none 0 0, .slice none 0 0, .int .i64 0, .string ⟨#[]⟩, .string ⟨#[]⟩] 38)
  have b2 := Blk.new (w.alloc (.cells #[.int .i64 k, .slice A m c, .slice B n d, .int .i64 N, .string a, .string t] 38)) #[.int .i64 0, .slice none 0 0, .slice none 0 0, .int .i64 0, .string ⟨#[]⟩, .string ⟨#[]⟩] 38
  clear hA hB
  go_enter Tryd.func16, Tryd.ntmps16
  go_upto_region 1 with fail
  generalize (w.alloc (.cells #[.int .i64 k, .slice A m c, .slice B n d, .int .i64 N, .string a, .string t] 38)).alloc (.cells #[.int .i64 0, .slice none 0 0, .slice none 0 0, .int .i64 0, .string ⟨#[]⟩, .string ⟨#[]⟩] 38) = w1 at k0 b1 b2 ⊢
  have b2' : Blk w1 (w.heap.size + 1) #[.int .i64 0, .slice none 0 0, .slice none 0 0, .int .i64 0, .string ⟨#[]⟩, .string ⟨#[]⟩] 38 := by simpa using b2
  clear b2
  obtain ⟨gr, hgr⟩ : ∃ g2, w.heap.size + 1 = g2 := ⟨_, rfl⟩
  obtain ⟨g, hg⟩ : ∃ g1, w.heap.size = g1 := ⟨_, rfl⟩
  have hne : g ≠ gr := by omega
  have hlo : w.heap.size ≤ gr := by omega
  rw [hgr] at b2' ⊢
  rw [hg] at b1 ⊢
  have H0 : Hid (Blk w1 g #[.int .i64 k, .slice A m c, .slice B n d, .int .i64 N, .string a, .string t] 38 ∧ Blk w1 gr #[.int .i64 0, .slice none 0 0, .slice none 0 0, .int .i64 0, .string ⟨#[]⟩, .string ⟨#[]⟩] 38 ∧ Kept w w1) := ⟨b1, b2', k0⟩
  clear b1 b2' k0
  have bc := Blk.cell H0.out.1
  have z00 : w1.cell? ⟨g, 0, none⟩ = some (.int .i64 k) := bc 0
  have z01 : w1.cell? ⟨g, 1, none⟩ = some (.slice A m c) := bc 1
  have z02 : w1.cell? ⟨g, 2, none⟩ = some (.slice B n d) := bc 2
  have z03 : w1.cell? ⟨g, 3, none⟩ = some (.int .i64 N) := bc 3
  have z04 : w1.cell? ⟨g, 4, none⟩ = some (.string a) := bc 4
  have z05 : w1.cell? ⟨g, 5, none⟩ = some (.string t) := bc 5
  have fr := Blk.frozen H0.out.1
  have fs := Blk.frozen H0.out.2.1
  clear bc
  have l0 : ¬ (6 : Int) < m := by omega
  have c0 : Hid (sh6 m = m) := if_neg h0
  by_cases h1 : 6 < n
  · have l1 : (6 : Int) < n := by omega
    have c1 : Hid (sh6 n = 6) := if_pos h1
    have hB6 : (6 : Int) ≤ d := by omega
    go_upto_region 5 with fail
    refine wp_named ?_
    intro w24 hw24
    have H24 : Hid (Blk w24 g #[.int .i64 k, .slice A m c, .slice B 6 d, .int .i64 N, .string a, .string t] 38 ∧ Blk w24 gr #[.int .i64 0, .slice none 0 0, .slice none 0 0, .int .i64 0, .string ⟨#[]⟩, .string ⟨#[]⟩] 38 ∧ Kept w w24) := by
      rw [hw24]
      exact ⟨Blk.set H0.out.1 2 (.slice B 6 d), Blk.other H0.out.2.1 2 (.slice B 6 d) hne, H0.out.2.2.setCell (by show w.heap.size ≤ g; omega) _⟩
    clear hw24 z00 z01 z02 z03 z04 z05 fr fs l1
    have bc := Blk.cell H24.out.1
    have z240 : w24.cell? ⟨g, 0, none⟩ = some (.int .i64 k) := bc 0
    have z241 : w24.cell? ⟨g, 1, none⟩ = some (.slice A m c) := bc 1
    have z242 : w24.cell? ⟨g, 2, none⟩ = some (.slice B 6 d) := bc 2
    have z243 : w24.cell? ⟨g, 3, none⟩ = some (.int .i64 N) := bc 3
    have z244 : w24.cell? ⟨g, 4, none⟩ = some (.string a) := bc 4
    have z245 : w24.cell? ⟨g, 5, none⟩ = some (.string t) := bc 5
    have fr := Blk.frozen H24.out.1
    have fs := Blk.frozen H24.out.2.1
    clear bc
    by_cases h2 : 40 < a.size
    · have l2 : (40 : Int) < a.size := by omega
      have c2 : Hid (sh40 a = (a.extract 0 40)) := if_pos h2
      have hS4 : (40 : Int) ≤ a.size := by omega
      go_upto_region 7 with fail
      refine wp_named ?_
      intro w25 hw25
      have H25 : Hid (Blk w25 g #[.int .i64 k, .slice A m c, .slice B 6 d, .int .i64 N, .string (a.extract 0 40), .string t] 38 ∧ Blk w25 gr #[.int .i64 0, .slice none 0 0, .slice none 0 0, .int .i64 0, .string ⟨#[]⟩, .string ⟨#[]⟩] 38 ∧ Kept w w25) := by
        rw [hw25]
        exact ⟨Blk.set H24.out.1 4 (.string (a.extract 0 40)), Blk.other H24.out.2.1 4 (.string (a.extract 0 40)) hne, H24.out.2.2.setCell (by show w.heap.size ≤ g; omega) _⟩
      clear hw25 z240 z241 z242 z243 z244 z245 fr fs l2
      have bc := Blk.cell H25.out.1
      have z250 : w25.cell? ⟨g, 0, none⟩ = some (.int .i64 k) := bc 0
      have z251 : w25.cell? ⟨g, 1, none⟩ = some (.slice A m c) := bc 1
      have z252 : w25.cell? ⟨g, 2, none⟩ = some (.slice B 6 d) := bc 2
      have z253 : w25.cell? ⟨g, 3, none⟩ = some (.int .i64 N) := bc 3
      have z254 : w25.cell? ⟨g, 4, none⟩ = some (.string (a.extract 0 40)) := bc 4
      have z255 : w25.cell? ⟨g, 5, none⟩ = some (.string t) := bc 5
      have fr := Blk.frozen H25.out.1
      have fs := Blk.frozen H25.out.2.1
      clear bc
      by_cases h3 : 100 < t.size
      · have l3 : (100 : Int) < t.size := by omega
        have c3 : Hid (sh100 t = (t.extract 0 100)) := if_pos h3
        have hS5 : (100 : Int) ≤ t.size := by omega
        go_upto_region 9 with fail
        refine wp_named ?_
        intro w26 hw26
        have H26 : Hid (Blk w26 g #[.int .i64 k, .slice A m c, .slice B 6 d, .int .i64 N, .string (a.extract 0 40), .string (t.extract 0 100)] 38 ∧ Blk w26 gr #[.int .i64 0, .slice none 0 0, .slice none 0 0, .int .i64 0, .string ⟨#[]⟩, .string ⟨#[]⟩] 38 ∧ Kept w w26) := by
          rw [hw26]
          exact ⟨Blk.set H25.out.1 5 (.string (t.extract 0 100)), Blk.other H25.out.2.1 5 (.string (t.extract 0 100)) hne, H25.out.2.2.setCell (by show w.heap.size ≤ g; omega) _⟩
        clear hw26 z250 z251 z252 z253 z254 z255 fr fs l3
        have bc := Blk.cell H26.out.1
        have z260 : w26.cell? ⟨g, 0, none⟩ = some (.int .i64 k) := bc 0
        have z261 : w26.cell? ⟨g, 1, none⟩ = some (.slice A m c) := bc 1
        have z262 : w26.cell? ⟨g, 2, none⟩ = some (.slice B 6 d) := bc 2
        have z263 : w26.cell? ⟨g, 3, none⟩ = some (.int .i64 N) := bc 3
        have z264 : w26.cell? ⟨g, 4, none⟩ = some (.string (a.extract 0 40)) := bc 4
        have z265 : w26.cell? ⟨g, 5, none⟩ = some (.string (t.extract 0 100)) := bc 5
        have fr := Blk.frozen H26.out.1
        have fs := Blk.frozen H26.out.2.1
        clear bc
        clear h0 h1 h2 h3
        have bd := Blk.cell H26.out.2.1
        have v0 : w26.cell? ⟨gr, 0, none⟩ = some (.int .i64 0) := bd 0
        have v1 : w26.cell? ⟨gr, 1, none⟩ = some (.slice none 0 0) := bd 1
        have v2 : w26.cell? ⟨gr, 2, none⟩ = some (.slice none 0 0) := bd 2
        have v3 : w26.cell? ⟨gr, 3, none⟩ = some (.int .i64 0) := bd 3
        have v4 : w26.cell? ⟨gr, 4, none⟩ = some (.string ⟨#[]⟩) := bd 4
        have v5 : w26.cell? ⟨gr, 5, none⟩ = some (.string ⟨#[]⟩) := bd 5
        clear bd
        go_wp2_with fail
        refine body_named ?_
        intro w9 hw9
        have e9 : w9 = opSet6 w26 gr (.int .i64 k) (.slice A m c) (.slice B 6 d) (.int .i64 N) (.string (a.extract 0 40)) (.string (t.extract 0 100)) := hw9
        have h9 := op6 H26.out.2.1 H26.out.2.2 hlo e9
        have bz := Blk.cell h9.1
        have y0 : w9.cell? ⟨gr, 0, none⟩ = some (.int .i64 k) := bz 0
        have y1 : w9.cell? ⟨gr, 1, none⟩ = some (.slice A m c) := bz 1
        have y2 : w9.cell? ⟨gr, 2, none⟩ = some (.slice B 6 d) := bz 2
        have y3 : w9.cell? ⟨gr, 3, none⟩ = some (.int .i64 N) := bz 3
        have y4 : w9.cell? ⟨gr, 4, none⟩ = some (.string (a.extract 0 40)) := bz 4
        have y5 : w9.cell? ⟨gr, 5, none⟩ = some (.string (t.extract 0 100)) := bz 5
        clear bz hw9 e9 fr fs
        refine bodyPost_ret (v := .agg #[.int .i64 k, .slice A m c, .slice B 6 d, .int .i64 N, .string (a.extract 0 40), .string (t.extract 0 100)]) (by simp [results, Tryd.results16, go_sem, y0, y1, y2, y3, y4, y5]) rfl ⟨?_, h9.2⟩
        exact HR.out _ _ _ _ c0.out c1.out c2.out c3.out
      · have l3 : ¬ (100 : Int) < t.size := by omega
        have c3 : Hid (sh100 t = t) := if_neg h3
        clear h0 h1 h2 h3
        have bd := Blk.cell H25.out.2.1
        have v0 : w25.cell? ⟨gr, 0, none⟩ = some (.int .i64 0) := bd 0
        have v1 : w25.cell? ⟨gr, 1, none⟩ = some (.slice none 0 0) := bd 1
        have v2 : w25.cell? ⟨gr, 2, none⟩ = some (.slice none 0 0) := bd 2
        have v3 : w25.cell? ⟨gr, 3, none⟩ = some (.int .i64 0) := bd 3
        have v4 : w25.cell? ⟨gr, 4, none⟩ = some (.string ⟨#[]⟩) := bd 4
        have v5 : w25.cell? ⟨gr, 5, none⟩ = some (.string ⟨#[]⟩) := bd 5
        clear bd
        go_wp2_with fail
        refine body_named ?_
        intro w9 hw9
        have e9 : w9 = opSet6 w25 gr (.int .i64 k) (.slice A m c) (.slice B 6 d) (.int .i64 N) (.string (a.extract 0 40)) (.string t) := hw9
        have h9 := op6 H25.out.2.1 H25.out.2.2 hlo e9
        have bz := Blk.cell h9.1
        have y0 : w9.cell? ⟨gr, 0, none⟩ = some (.int .i64 k) := bz 0
        have y1 : w9.cell? ⟨gr, 1, none⟩ = some (.slice A m c) := bz 1
        have y2 : w9.cell? ⟨gr, 2, none⟩ = some (.slice B 6 d) := bz 2
        have y3 : w9.cell? ⟨gr, 3, none⟩ = some (.int .i64 N) := bz 3
        have y4 : w9.cell? ⟨gr, 4, none⟩ = some (.string (a.extract 0 40)) := bz 4
        have y5 : w9.cell? ⟨gr, 5, none⟩ = some (.string t) := bz 5
        clear bz hw9 e9 fr fs
        refine bodyPost_ret (v := .agg #[.int .i64 k, .slice A m c, .slice B 6 d, .int .i64 N, .string (a.extract 0 40), .string t]) (by simp [results, Tryd.results16, go_sem, y0, y1, y2, y3, y4, y5]) rfl ⟨?_, h9.2⟩
        exact HR.out _ _ _ _ c0.out c1.out c2.out c3.out
    · have l2 : ¬ (40 : Int) < a.size := by omega
      have c2 : Hid (sh40 a = a) := if_neg h2
      by_cases h3 : 100 < t.size
      · have l3 : (100 : Int) < t.size := by omega
        have c3 : Hid (sh100 t = (t.extract 0 100)) := if_pos h3
        have hS5 : (100 : Int) ≤ t.size := by omega
        go_upto_region 9 with fail
        refine wp_named ?_
        intro w27 hw27
        have H27 : Hid (Blk w27 g #[.int .i64 k, .slice A m c, .slice B 6 d, .int .i64 N, .string a, .string (t.extract 0 100)] 38 ∧ Blk w27 gr #[.int .i64 0, .slice none 0 0, .slice none 0 0, .int .i64 0, .string ⟨#[]⟩, .string ⟨#[]⟩] 38 ∧ Kept w w27) := by
          rw [hw27]
          exact ⟨Blk.set H24.out.1 5 (.string (t.extract 0 100)), Blk.other H24.out.2.1 5 (.string (t.extract 0 100)) hne, H24.out.2.2.setCell (by show w.heap.size ≤ g; omega) _⟩
        clear hw27 z240 z241 z242 z243 z244 z245 fr fs l3
        have bc := Blk.cell H27.out.1
        have z270 : w27.cell? ⟨g, 0, none⟩ = some (.int .i64 k) := bc 0
        have z271 : w27.cell? ⟨g, 1, none⟩ = some (.slice A m c) := bc 1
        have z272 : w27.cell? ⟨g, 2, none⟩ = some (.slice B 6 d) := bc 2
        have z273 : w27.cell? ⟨g, 3, none⟩ = some (.int .i64 N) := bc 3
        have z274 : w27.cell? ⟨g, 4, none⟩ = some (.string a) := bc 4
        have z275 : w27.cell? ⟨g, 5, none⟩ = some (.string (t.extract 0 100)) := bc 5
        have fr := Blk.frozen H27.out.1
        have fs := Blk.frozen H27.out.2.1
        clear bc
        clear h0 h1 h2 h3
        have bd := Blk.cell H27.out.2.1
        have v0 : w27.cell? ⟨gr, 0, none⟩ = some (.int .i64 0) := bd 0
        have v1 : w27.cell? ⟨gr, 1, none⟩ = some (.slice none 0 0) := bd 1
        have v2 : w27.cell? ⟨gr, 2, none⟩ = some (.slice none 0 0) := bd 2
        have v3 : w27.cell? ⟨gr, 3, none⟩ = some (.int .i64 0) := bd 3
        have v4 : w27.cell? ⟨gr, 4, none⟩ = some (.string ⟨#[]⟩) := bd 4
        have v5 : w27.cell? ⟨gr, 5, none⟩ = some (.string ⟨#[]⟩) := bd 5
        clear bd
        go_wp2_with fail
        refine body_named ?_
        intro w9 hw9
        have e9 : w9 = opSet6 w27 gr (.int .i64 k) (.slice A m c) (.slice B 6 d) (.int .i64 N) (.string a) (.string (t.extract 0 100)) := hw9
        have h9 := op6 H27.out.2.1 H27.out.2.2 hlo e9
        have bz := Blk.cell h9.1
        have y0 : w9.cell? ⟨gr, 0, none⟩ = some (.int .i64 k) := bz 0
        have y1 : w9.cell? ⟨gr, 1, none⟩ = some (.slice A m c) := bz 1
        have y2 : w9.cell? ⟨gr, 2, none⟩ = some (.slice B 6 d) := bz 2
        have y3 : w9.cell? ⟨gr, 3, none⟩ = some (.int .i64 N) := bz 3
        have y4 : w9.cell? ⟨gr, 4, none⟩ = some (.string a) := bz 4
        have y5 : w9.cell? ⟨gr, 5, none⟩ = some (.string (t.extract 0 100)) := bz 5
        clear bz hw9 e9 fr fs
        refine bodyPost_ret (v := .agg #[.int .i64 k, .slice A m c, .slice B 6 d, .int .i64 N, .string a, .string (t.extract 0 100)]) (by simp [results, Tryd.results16, go_sem, y0, y1, y2, y3, y4, y5]) rfl ⟨?_, h9.2⟩
        exact HR.out _ _ _ _ c0.out c1.out c2.out c3.out
      · have l3 : ¬ (100 : Int) < t.size := by omega
        have c3 : Hid (sh100 t = t) := if_neg h3
        clear h0 h1 h2 h3
        have bd := Blk.cell H24.out.2.1
        have v0 : w24.cell? ⟨gr, 0, none⟩ = some (.int .i64 0) := bd 0
        have v1 : w24.cell? ⟨gr, 1, none⟩ = some (.slice none 0 0) := bd 1
        have v2 : w24.cell? ⟨gr, 2, none⟩ = some (.slice none 0 0) := bd 2
        have v3 : w24.cell? ⟨gr, 3, none⟩ = some (.int .i64 0) := bd 3
        have v4 : w24.cell? ⟨gr, 4, none⟩ = some (.string ⟨#[]⟩) := bd 4
        have v5 : w24.cell? ⟨gr, 5, none⟩ = some (.string ⟨#[]⟩) := bd 5
        clear bd
        go_wp2_with fail
        refine body_named ?_
        intro w9 hw9
        have e9 : w9 = opSet6 w24 gr (.int .i64 k) (.slice A m c) (.slice B 6 d) (.int .i64 N) (.string a) (.string t) := hw9
        have h9 := op6 H24.out.2.1 H24.out.2.2 hlo e9
        have bz := Blk.cell h9.1
        have y0 : w9.cell? ⟨gr, 0, none⟩ = some (.int .i64 k) := bz 0
        have y1 : w9.cell? ⟨gr, 1, none⟩ = some (.slice A m c) := bz 1
        have y2 : w9.cell? ⟨gr, 2, none⟩ = some (.slice B 6 d) := bz 2
        have y3 : w9.cell? ⟨gr, 3, none⟩ = some (.int .i64 N) := bz 3
        have y4 : w9.cell? ⟨gr, 4, none⟩ = some (.string a) := bz 4
        have y5 : w9.cell? ⟨gr, 5, none⟩ = some (.string t) := bz 5
        clear bz hw9 e9 fr fs
        refine bodyPost_ret (v := .agg #[.int .i64 k, .slice A m c, .slice B 6 d, .int .i64 N, .string a, .string t]) (by simp [results, Tryd.results16, go_sem, y0, y1, y2, y3, y4, y5]) rfl ⟨?_, h9.2⟩
        exact HR.out _ _ _ _ c0.out c1.out c2.out c3.out
  · have l1 : ¬ (6 : Int) < n := by omega
    have c1 : Hid (sh6 n = n) := if_neg h1
    by_cases h2 : 40 < a.size
    · have l2 : (40 : Int) < a.size := by omega
      have c2 : Hid (sh40 a = (a.extract 0 40)) := if_pos h2
      have hS4 : (40 : Int) ≤ a.size := by omega
      go_upto_region 7 with fail
      refine wp_named ?_
      intro w28 hw28
      have H28 : Hid (Blk w28 g #[.int .i64 k, .slice A m c, .slice B n d, .int .i64 N, .string (a.extract 0 40), .string t] 38 ∧ Blk w28 gr #[.int .i64 0, .slice none 0 0, .slice none 0 0, .int .i64 0, .string ⟨#[]⟩, .string ⟨#[]⟩] 38 ∧ Kept w w28) := by
        rw [hw28]
        exact ⟨Blk.set H0.out.1 4 (.string (a.extract 0 40)), Blk.other H0.out.2.1 4 (.string (a.extract 0 40)) hne, H0.out.2.2.setCell (by show w.heap.size ≤ g; omega) _⟩
      clear hw28 z00 z01 z02 z03 z04 z05 fr fs l2
      have bc := Blk.cell H28.out.1
      have z280 : w28.cell? ⟨g, 0, none⟩ = some (.int .i64 k) := bc 0
      have z281 : w28.cell? ⟨g, 1, none⟩ = some (.slice A m c) := bc 1
      have z282 : w28.cell? ⟨g, 2, none⟩ = some (.slice B n d) := bc 2
      have z283 : w28.cell? ⟨g, 3, none⟩ = some (.int .i64 N) := bc 3
      have z284 : w28.cell? ⟨g, 4, none⟩ = some (.string (a.extract 0 40)) := bc 4
      have z285 : w28.cell? ⟨g, 5, none⟩ = some (.string t) := bc 5
      have fr := Blk.frozen H28.out.1
      have fs := Blk.frozen H28.out.2.1
      clear bc
      by_cases h3 : 100 < t.size
      · have l3 : (100 : Int) < t.size := by omega
        have c3 : Hid (sh100 t = (t.extract 0 100)) := if_pos h3
        have hS5 : (100 : Int) ≤ t.size := by omega
        go_upto_region 9 with fail
        refine wp_named ?_
        intro w29 hw29
        have H29 : Hid (Blk w29 g #[.int .i64 k, .slice A m c, .slice B n d, .int .i64 N, .string (a.extract 0 40), .string (t.extract 0 100)] 38 ∧ Blk w29 gr #[.int .i64 0, .slice none 0 0, .slice none 0 0, .int .i64 0, .string ⟨#[]⟩, .string ⟨#[]⟩] 38 ∧ Kept w w29) := by
          rw [hw29]
          exact ⟨Blk.set H28.out.1 5 (.string (t.extract 0 100)), Blk.other H28.out.2.1 5 (.string (t.extract 0 100)) hne, H28.out.2.2.setCell (by show w.heap.size ≤ g; omega) _⟩
        clear hw29 z280 z281 z282 z283 z284 z285 fr fs l3
        have bc := Blk.cell H29.out.1
        have z290 : w29.cell? ⟨g, 0, none⟩ = some (.int .i64 k) := bc 0
        have z291 : w29.cell? ⟨g, 1, none⟩ = some (.slice A m c) := bc 1
        have z292 : w29.cell? ⟨g, 2, none⟩ = some (.slice B n d) := bc 2
        have z293 : w29.cell? ⟨g, 3, none⟩ = some (.int .i64 N) := bc 3
        have z294 : w29.cell? ⟨g, 4, none⟩ = some (.string (a.extract 0 40)) := bc 4
        have z295 : w29.cell? ⟨g, 5, none⟩ = some (.string (t.extract 0 100)) := bc 5
        have fr := Blk.frozen H29.out.1
        have fs := Blk.frozen H29.out.2.1
        clear bc
        clear h0 h1 h2 h3
        have bd := Blk.cell H29.out.2.1
        have v0 : w29.cell? ⟨gr, 0, none⟩ = some (.int .i64 0) := bd 0
        have v1 : w29.cell? ⟨gr, 1, none⟩ = some (.slice none 0 0) := bd 1
        have v2 : w29.cell? ⟨gr, 2, none⟩ = some (.slice none 0 0) := bd 2
        have v3 : w29.cell? ⟨gr, 3, none⟩ = some (.int .i64 0) := bd 3
        have v4 : w29.cell? ⟨gr, 4, none⟩ = some (.string ⟨#[]⟩) := bd 4
        have v5 : w29.cell? ⟨gr, 5, none⟩ = some (.string ⟨#[]⟩) := bd 5
        clear bd
        go_wp2_with fail
        refine body_named ?_
        intro w9 hw9
        have e9 : w9 = opSet6 w29 gr (.int .i64 k) (.slice A m c) (.slice B n d) (.int .i64 N) (.string (a.extract 0 40)) (.string (t.extract 0 100)) := hw9
        have h9 := op6 H29.out.2.1 H29.out.2.2 hlo e9
        have bz := Blk.cell h9.1
        have y0 : w9.cell? ⟨gr, 0, none⟩ = some (.int .i64 k) := bz 0
        have y1 : w9.cell? ⟨gr, 1, none⟩ = some (.slice A m c) := bz 1
        have y2 : w9.cell? ⟨gr, 2, none⟩ = some (.slice B n d) := bz 2
        have y3 : w9.cell? ⟨gr, 3, none⟩ = some (.int .i64 N) := bz 3
        have y4 : w9.cell? ⟨gr, 4, none⟩ = some (.string (a.extract 0 40)) := bz 4
        have y5 : w9.cell? ⟨gr, 5, none⟩ = some (.string (t.extract 0 100)) := bz 5
        clear bz hw9 e9 fr fs
        refine bodyPost_ret (v := .agg #[.int .i64 k, .slice A m c, .slice B n d, .int .i64 N, .string (a.extract 0 40), .string (t.extract 0 100)]) (by simp [results, Tryd.results16, go_sem, y0, y1, y2, y3, y4, y5]) rfl ⟨?_, h9.2⟩
        exact HR.out _ _ _ _ c0.out c1.out c2.out c3.out
      · have l3 : ¬ (100 : Int) < t.size := by omega
        have c3 : Hid (sh100 t = t) := if_neg h3
        clear h0 h1 h2 h3
        have bd := Blk.cell H28.out.2.1
        have v0 : w28.cell? ⟨gr, 0, none⟩ = some (.int .i64 0) := bd 0
        have v1 : w28.cell? ⟨gr, 1, none⟩ = some (.slice none 0 0) := bd 1
        have v2 : w28.cell? ⟨gr, 2, none⟩ = some (.slice none 0 0) := bd 2
        have v3 : w28.cell? ⟨gr, 3, none⟩ = some (.int .i64 0) := bd 3
        have v4 : w28.cell? ⟨gr, 4, none⟩ = some (.string ⟨#[]⟩) := bd 4
        have v5 : w28.cell? ⟨gr, 5, none⟩ = some (.string ⟨#[]⟩) := bd 5
        clear bd
        go_wp2_with fail
        refine body_named ?_
        intro w9 hw9
        have e9 : w9 = opSet6 w28 gr (.int .i64 k) (.slice A m c) (.slice B n d) (.int .i64 N) (.string (a.extract 0 40)) (.string t) := hw9
        have h9 := op6 H28.out.2.1 H28.out.2.2 hlo e9
        have bz := Blk.cell h9.1
        have y0 : w9.cell? ⟨gr, 0, none⟩ = some (.int .i64 k) := bz 0
        have y1 : w9.cell? ⟨gr, 1, none⟩ = some (.slice A m c) := bz 1
        have y2 : w9.cell? ⟨gr, 2, none⟩ = some (.slice B n d) := bz 2
        have y3 : w9.cell? ⟨gr, 3, none⟩ = some (.int .i64 N) := bz 3
        have y4 : w9.cell? ⟨gr, 4, none⟩ = some (.string (a.extract 0 40)) := bz 4
        have y5 : w9.cell? ⟨gr, 5, none⟩ = some (.string t) := bz 5
        clear bz hw9 e9 fr fs
        refine bodyPost_ret (v := .agg #[.int .i64 k, .slice A m c, .slice B n d, .int .i64 N, .string (a.extract 0 40), .string t]) (by simp [results, Tryd.results16, go_sem, y0, y1, y2, y3, y4, y5]) rfl ⟨?_, h9.2⟩
        exact HR.out _ _ _ _ c0.out c1.out c2.out c3.out
    · have l2 : ¬ (40 : Int) < a.size := by omega
      have c2 : Hid (sh40 a = a) := if_neg h2
      by_cases h3 : 100 < t.size
      · have l3 : (100 : Int) < t.size := by omega
        have c3 : Hid (sh100 t = (t.extract 0 100)) := if_pos h3
        have hS5 : (100 : Int) ≤ t.size := by omega
        go_upto_region 9 with fail
        refine wp_named ?_
        intro w30 hw30
        have H30 : Hid (Blk w30 g #[.int .i64 k, .slice A m c, .slice B n d, .int .i64 N, .string a, .string (t.extract 0 100)] 38 ∧ Blk w30 gr #[.int .i64 0, .slice none 0 0, .slice none 0 0, .int .i64 0, .string ⟨#[]⟩, .string ⟨#[]⟩] 38 ∧ Kept w w30) := by
          rw [hw30]
          exact ⟨Blk.set H0.out.1 5 (.string (t.extract 0 100)), Blk.other H0.out.2.1 5 (.string (t.extract 0 100)) hne, H0.out.2.2.setCell (by show w.heap.size ≤ g; omega) _⟩
        clear hw30 z00 z01 z02 z03 z04 z05 fr fs l3
        have bc := Blk.cell H30.out.1
        have z300 : w30.cell? ⟨g, 0, none⟩ = some (.int .i64 k) := bc 0
        have z301 : w30.cell? ⟨g, 1, none⟩ = some (.slice A m c) := bc 1
        have z302 : w30.cell? ⟨g, 2, none⟩ = some (.slice B n d) := bc 2
        have z303 : w30.cell? ⟨g, 3, none⟩ = some (.int .i64 N) := bc 3
        have z304 : w30.cell? ⟨g, 4, none⟩ = some (.string a) := bc 4
        have z305 : w30.cell? ⟨g, 5, none⟩ = some (.string (t.extract 0 100)) := bc 5
        have fr := Blk.frozen H30.out.1
        have fs := Blk.frozen H30.out.2.1
        clear bc
        clear h0 h1 h2 h3
        have bd := Blk.cell H30.out.2.1
        have v0 : w30.cell? ⟨gr, 0, none⟩ = some (.int .i64 0) := bd 0
        have v1 : w30.cell? ⟨gr, 1, none⟩ = some (.slice none 0 0) := bd 1
        have v2 : w30.cell? ⟨gr, 2, none⟩ = some (.slice none 0 0) := bd 2
        have v3 : w30.cell? ⟨gr, 3, none⟩ = some (.int .i64 0) := bd 3
        have v4 : w30.cell? ⟨gr, 4, none⟩ = some (.string ⟨#[]⟩) := bd 4
        have v5 : w30.cell? ⟨gr, 5, none⟩ = some (.string ⟨#[]⟩) := bd 5
        clear bd
        go_wp2_with fail
        refine body_named ?_
        intro w9 hw9
        have e9 : w9 = opSet6 w30 gr (.int .i64 k) (.slice A m c) (.slice B n d) (.int .i64 N) (.string a) (.string (t.extract 0 100)) := hw9
        have h9 := op6 H30.out.2.1 H30.out.2.2 hlo e9
        have bz := Blk.cell h9.1
        have y0 : w9.cell? ⟨gr, 0, none⟩ = some (.int .i64 k) := bz 0
        have y1 : w9.cell? ⟨gr, 1, none⟩ = some (.slice A m c) := bz 1
        have y2 : w9.cell? ⟨gr, 2, none⟩ = some (.slice B n d) := bz 2
        have y3 : w9.cell? ⟨gr, 3, none⟩ = some (.int .i64 N) := bz 3
        have y4 : w9.cell? ⟨gr, 4, none⟩ = some (.string a) := bz 4
        have y5 : w9.cell? ⟨gr, 5, none⟩ = some (.string (t.extract 0 100)) := bz 5
        clear bz hw9 e9 fr fs
        refine bodyPost_ret (v := .agg #[.int .i64 k, .slice A m c, .slice B n d, .int .i64 N, .string a, .string (t.extract 0 100)]) (by simp [results, Tryd.results16, go_sem, y0, y1, y2, y3, y4, y5]) rfl ⟨?_, h9.2⟩
        exact HR.out _ _ _ _ c0.out c1.out c2.out c3.out
      · have l3 : ¬ (100 : Int) < t.size := by omega
        have c3 : Hid (sh100 t = t) := if_neg h3
        clear h0 h1 h2 h3
        have bd := Blk.cell H0.out.2.1
        have v0 : w1.cell? ⟨gr, 0, none⟩ = some (.int .i64 0) := bd 0
        have v1 : w1.cell? ⟨gr, 1, none⟩ = some (.slice none 0 0) := bd 1
        have v2 : w1.cell? ⟨gr, 2, none⟩ = some (.slice none 0 0) := bd 2
        have v3 : w1.cell? ⟨gr, 3, none⟩ = some (.int .i64 0) := bd 3
        have v4 : w1.cell? ⟨gr, 4, none⟩ = some (.string ⟨#[]⟩) := bd 4
        have v5 : w1.cell? ⟨gr, 5, none⟩ = some (.string ⟨#[]⟩) := bd 5
        clear bd
        go_wp2_with fail
        refine body_named ?_
        intro w9 hw9
        have e9 : w9 = opSet6 w1 gr (.int .i64 k) (.slice A m c) (.slice B n d) (.int .i64 N) (.string a) (.string t) := hw9
        have h9 := op6 H0.out.2.1 H0.out.2.2 hlo e9
        have bz := Blk.cell h9.1
        have y0 : w9.cell? ⟨gr, 0, none⟩ = some (.int .i64 k) := bz 0
        have y1 : w9.cell? ⟨gr, 1, none⟩ = some (.slice A m c) := bz 1
        have y2 : w9.cell? ⟨gr, 2, none⟩ = some (.slice B n d) := bz 2
        have y3 : w9.cell? ⟨gr, 3, none⟩ = some (.int .i64 N) := bz 3
        have y4 : w9.cell? ⟨gr, 4, none⟩ = some (.string a) := bz 4
        have y5 : w9.cell? ⟨gr, 5, none⟩ = some (.string t) := bz 5
        clear bz hw9 e9 fr fs
        refine bodyPost_ret (v := .agg #[.int .i64 k, .slice A m c, .slice B n d, .int .i64 N, .string a, .string t]) (by simp [results, Tryd.results16, go_sem, y0, y1, y2, y3, y4, y5]) rfl ⟨?_, h9.2⟩
        exact HR.out _ _ _ _ c0.out c1.out c2.out c3.out
theorem short24_any (k : Int) (A : Option Addr) (m c : Nat) (p : List Int) (B : Option Addr) (n d : Nat) (q : List Int) (N : Int) (a t : ByteArray) (w : World) (hA : Sl w 1 A m c (p.map intV)) (hB : Sl w 1 B n d (q.map intV)) :
    Calls Tryd.prog 16 #[.agg #[.int .i64 k, .slice A m c, .slice B n d, .int .i64 N, .string a, .string t]] w fun e w' => e = .returned (.agg #[.int .i64 k, .slice A (sh6 m) c, .slice B (sh6 n) d, .int .i64 N, .string (sh40 a), .string (sh100 t)]) ∧ Kept w w' := by
  by_cases h : 6 < m
  · exact short24_a k A m c p B n d q N a t w hA hB h
  · exact short24_b k A m c p B n d q N a t w hA hB h
end Go.Proofs.YtmcmicgdkdbgjaaDoor
