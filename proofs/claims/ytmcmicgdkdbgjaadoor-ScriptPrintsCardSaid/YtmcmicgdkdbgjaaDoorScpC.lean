/- What a line does not name is empty: script.rest, walked (printed by wip/gen/gen_scpc.py). -/
import Derived.Test.YtmcmicgdkdbgjaaDoorScpB
import Derived.Test.YtmcmicgdkdbgjaaDoorScrL
import Derived.Test.YtmcmicgdkdbgjaaDoorScrU
namespace Go.Proofs.YtmcmicgdkdbgjaaDoor
open Go.RowKit
attribute [local go_sem ↓] Go.wp_at_zero Go.wp_at_succ

theorem has1_any (sg : ByteArray) (c : UInt8) (g : Nat) (h : Bool) (w : World) (hh : h = decide (0 ≤ Lib.indexByte sg.data.toList c)) (hc : w.cell? ⟨g, 0, none⟩ = some (.string sg)) : Calls Tryd.prog 48 #[.string ⟨#[c]⟩, .pointer (some ⟨g, 0, none⟩)] w fun e w' => e = .returned (.bool h) ∧ w = w' := by
  have H := Lib.hid (lib_strings_Contains_one sg c w)
  rw [← hh] at H
  clear hh
  go_enter Tryd.func48, Tryd.ntmps48
  go_wp2_with fail
  refine H.out.mono ?_
  rintro e w2 ⟨rfl, rfl⟩
  go_wp2_with fail
  go_ret
  exact ⟨rfl, rfl⟩
set_option maxRecDepth 100000 in
set_option maxHeartbeats 16000000 in
theorem rest_any (k : Int) (A : Option Addr) (m c : Nat) (B : Option Addr) (n d : Nat) (N : Int) (a t : ByteArray) (sg : ByteArray) (h3 h2 h1 h0 q0 n0 a0 t0 : Bool) (w : World)
    (e3 : h3 = decide (0 ≤ Lib.indexByte sg.data.toList 113)) (e2 : h2 = decide (0 ≤ Lib.indexByte sg.data.toList 110)) (e1 : h1 = decide (0 ≤ Lib.indexByte sg.data.toList 97)) (e0 : h0 = decide (0 ≤ Lib.indexByte sg.data.toList 116))
    (hq : ((n : Int) == 0) = q0) (hn : (N == 0) = n0) (ha : (a.toList == []) = a0) (ha' : a.toList.isEmpty = a0) (ht : (t.toList == []) = t0) (ht' : t.toList.isEmpty = t0) :
    Calls Tryd.prog 34 #[.agg #[.int .i64 k, .slice A m c, .slice B n d, .int .i64 N, .string a, .string t], .string sg] w fun e w' => e = .returned (.bool ((h3 || q0) && ((h2 || n0) && ((h1 || a0) && (h0 || t0))))) ∧ Kept w w' := by
  have k0 : Kept w _ := ((Kept.refl w).alloc (.cells #[.int .i64 k, .slice A m c, .slice B n d, .int .i64 N, .string a, .string t] 37)).alloc (.cells #[.string sg] 9)
  have b1 := (Blk.new w #[.int .i64 k, .slice A m c, .slice B n d, .int .i64 N, .string a, .string t] 37).alloc (.cells #[.string sg] 9)
  have b2 := Blk.new (w.alloc (.cells #[.int .i64 k, .slice A m c, .slice B n d, .int .i64 N, .string a, .string t] 37)) #[.string sg] 9
  go_enter Tryd.func34, Tryd.ntmps34
  go_upto_region 1 with fail
  generalize (w.alloc (.cells #[.int .i64 k, .slice A m c, .slice B n d, .int .i64 N, .string a, .string t] 37)).alloc (.cells #[.string sg] 9) = w1 at k0 b1 b2 ⊢
  have b2' : Blk w1 (w.heap.size + 1) #[.string sg] 9 := by simpa using b2
  clear b2
  obtain ⟨g1, hg1⟩ : ∃ g1, w.heap.size = g1 := ⟨_, rfl⟩
  obtain ⟨g2, hg2⟩ : ∃ g2, w.heap.size + 1 = g2 := ⟨_, rfl⟩
  rw [hg2] at b2' ⊢
  rw [hg1] at b1 ⊢
  clear hg1 hg2
  have bc := Blk.cell b1
  have bd := Blk.cell b2'
  have x2 : w1.cell? ⟨g1, 2, none⟩ = some (.slice B n d) := bc 2
  have x3 : w1.cell? ⟨g1, 3, none⟩ = some (.int .i64 N) := bc 3
  have x4 : w1.cell? ⟨g1, 4, none⟩ = some (.string a) := bc 4
  have x5 : w1.cell? ⟨g1, 5, none⟩ = some (.string t) := bc 5
  have y0 : w1.cell? ⟨g2, 0, none⟩ = some (.string sg) := bd 0
  have H0 := Lib.hid (has1_any sg 113 g2 h3 w1 e3 y0)
  have H1 := Lib.hid (has1_any sg 110 g2 h2 w1 e2 y0)
  have H2 := Lib.hid (has1_any sg 97 g2 h1 w1 e1 y0)
  have H3 := Lib.hid (has1_any sg 116 g2 h0 w1 e0 y0)
  clear bc bd b1 b2' e3 e2 e1 e0 y0
  cases h3
  · cases q0
    · go_wp2_with fail
      refine (H0.out).mono ?_
      rintro e w2 ⟨rfl, rfl⟩
      go_wp2_with fail
      go_ret
      exact ⟨rfl, k0⟩
    · go_wp2_with fail
      refine (H0.out).mono ?_
      rintro e w2 ⟨rfl, rfl⟩
      cases h2
      · cases n0
        · go_wp2_with fail
          refine (H1.out).mono ?_
          rintro e w2 ⟨rfl, rfl⟩
          go_wp2_with fail
          go_ret
          exact ⟨rfl, k0⟩
        · go_wp2_with fail
          refine (H1.out).mono ?_
          rintro e w2 ⟨rfl, rfl⟩
          cases h1
          · cases a0
            · go_wp2_with fail
              refine (H2.out).mono ?_
              rintro e w2 ⟨rfl, rfl⟩
              go_wp2_with fail
              go_ret
              exact ⟨rfl, k0⟩
            · go_wp2_with fail
              refine (H2.out).mono ?_
              rintro e w2 ⟨rfl, rfl⟩
              cases h0
              · cases t0
                · go_wp2_with fail
                  refine (H3.out).mono ?_
                  rintro e w2 ⟨rfl, rfl⟩
                  go_wp2_with fail
                  go_ret
                  exact ⟨rfl, k0⟩
                · go_wp2_with fail
                  refine (H3.out).mono ?_
                  rintro e w2 ⟨rfl, rfl⟩
                  go_wp2_with fail
                  go_ret
                  exact ⟨rfl, k0⟩
              · go_wp2_with fail
                refine (H3.out).mono ?_
                rintro e w2 ⟨rfl, rfl⟩
                go_wp2_with fail
                go_ret
                exact ⟨rfl, k0⟩
          · go_wp2_with fail
            refine (H2.out).mono ?_
            rintro e w2 ⟨rfl, rfl⟩
            cases h0
            · cases t0
              · go_wp2_with fail
                refine (H3.out).mono ?_
                rintro e w2 ⟨rfl, rfl⟩
                go_wp2_with fail
                go_ret
                exact ⟨rfl, k0⟩
              · go_wp2_with fail
                refine (H3.out).mono ?_
                rintro e w2 ⟨rfl, rfl⟩
                go_wp2_with fail
                go_ret
                exact ⟨rfl, k0⟩
            · go_wp2_with fail
              refine (H3.out).mono ?_
              rintro e w2 ⟨rfl, rfl⟩
              go_wp2_with fail
              go_ret
              exact ⟨rfl, k0⟩
      · go_wp2_with fail
        refine (H1.out).mono ?_
        rintro e w2 ⟨rfl, rfl⟩
        cases h1
        · cases a0
          · go_wp2_with fail
            refine (H2.out).mono ?_
            rintro e w2 ⟨rfl, rfl⟩
            go_wp2_with fail
            go_ret
            exact ⟨rfl, k0⟩
          · go_wp2_with fail
            refine (H2.out).mono ?_
            rintro e w2 ⟨rfl, rfl⟩
            cases h0
            · cases t0
              · go_wp2_with fail
                refine (H3.out).mono ?_
                rintro e w2 ⟨rfl, rfl⟩
                go_wp2_with fail
                go_ret
                exact ⟨rfl, k0⟩
              · go_wp2_with fail
                refine (H3.out).mono ?_
                rintro e w2 ⟨rfl, rfl⟩
                go_wp2_with fail
                go_ret
                exact ⟨rfl, k0⟩
            · go_wp2_with fail
              refine (H3.out).mono ?_
              rintro e w2 ⟨rfl, rfl⟩
              go_wp2_with fail
              go_ret
              exact ⟨rfl, k0⟩
        · go_wp2_with fail
          refine (H2.out).mono ?_
          rintro e w2 ⟨rfl, rfl⟩
          cases h0
          · cases t0
            · go_wp2_with fail
              refine (H3.out).mono ?_
              rintro e w2 ⟨rfl, rfl⟩
              go_wp2_with fail
              go_ret
              exact ⟨rfl, k0⟩
            · go_wp2_with fail
              refine (H3.out).mono ?_
              rintro e w2 ⟨rfl, rfl⟩
              go_wp2_with fail
              go_ret
              exact ⟨rfl, k0⟩
          · go_wp2_with fail
            refine (H3.out).mono ?_
            rintro e w2 ⟨rfl, rfl⟩
            go_wp2_with fail
            go_ret
            exact ⟨rfl, k0⟩
  · go_wp2_with fail
    refine (H0.out).mono ?_
    rintro e w2 ⟨rfl, rfl⟩
    cases h2
    · cases n0
      · go_wp2_with fail
        refine (H1.out).mono ?_
        rintro e w2 ⟨rfl, rfl⟩
        go_wp2_with fail
        go_ret
        exact ⟨rfl, k0⟩
      · go_wp2_with fail
        refine (H1.out).mono ?_
        rintro e w2 ⟨rfl, rfl⟩
        cases h1
        · cases a0
          · go_wp2_with fail
            refine (H2.out).mono ?_
            rintro e w2 ⟨rfl, rfl⟩
            go_wp2_with fail
            go_ret
            exact ⟨rfl, k0⟩
          · go_wp2_with fail
            refine (H2.out).mono ?_
            rintro e w2 ⟨rfl, rfl⟩
            cases h0
            · cases t0
              · go_wp2_with fail
                refine (H3.out).mono ?_
                rintro e w2 ⟨rfl, rfl⟩
                go_wp2_with fail
                go_ret
                exact ⟨rfl, k0⟩
              · go_wp2_with fail
                refine (H3.out).mono ?_
                rintro e w2 ⟨rfl, rfl⟩
                go_wp2_with fail
                go_ret
                exact ⟨rfl, k0⟩
            · go_wp2_with fail
              refine (H3.out).mono ?_
              rintro e w2 ⟨rfl, rfl⟩
              go_wp2_with fail
              go_ret
              exact ⟨rfl, k0⟩
        · go_wp2_with fail
          refine (H2.out).mono ?_
          rintro e w2 ⟨rfl, rfl⟩
          cases h0
          · cases t0
            · go_wp2_with fail
              refine (H3.out).mono ?_
              rintro e w2 ⟨rfl, rfl⟩
              go_wp2_with fail
              go_ret
              exact ⟨rfl, k0⟩
            · go_wp2_with fail
              refine (H3.out).mono ?_
              rintro e w2 ⟨rfl, rfl⟩
              go_wp2_with fail
              go_ret
              exact ⟨rfl, k0⟩
          · go_wp2_with fail
            refine (H3.out).mono ?_
            rintro e w2 ⟨rfl, rfl⟩
            go_wp2_with fail
            go_ret
            exact ⟨rfl, k0⟩
    · go_wp2_with fail
      refine (H1.out).mono ?_
      rintro e w2 ⟨rfl, rfl⟩
      cases h1
      · cases a0
        · go_wp2_with fail
          refine (H2.out).mono ?_
          rintro e w2 ⟨rfl, rfl⟩
          go_wp2_with fail
          go_ret
          exact ⟨rfl, k0⟩
        · go_wp2_with fail
          refine (H2.out).mono ?_
          rintro e w2 ⟨rfl, rfl⟩
          cases h0
          · cases t0
            · go_wp2_with fail
              refine (H3.out).mono ?_
              rintro e w2 ⟨rfl, rfl⟩
              go_wp2_with fail
              go_ret
              exact ⟨rfl, k0⟩
            · go_wp2_with fail
              refine (H3.out).mono ?_
              rintro e w2 ⟨rfl, rfl⟩
              go_wp2_with fail
              go_ret
              exact ⟨rfl, k0⟩
          · go_wp2_with fail
            refine (H3.out).mono ?_
            rintro e w2 ⟨rfl, rfl⟩
            go_wp2_with fail
            go_ret
            exact ⟨rfl, k0⟩
      · go_wp2_with fail
        refine (H2.out).mono ?_
        rintro e w2 ⟨rfl, rfl⟩
        cases h0
        · cases t0
          · go_wp2_with fail
            refine (H3.out).mono ?_
            rintro e w2 ⟨rfl, rfl⟩
            go_wp2_with fail
            go_ret
            exact ⟨rfl, k0⟩
          · go_wp2_with fail
            refine (H3.out).mono ?_
            rintro e w2 ⟨rfl, rfl⟩
            go_wp2_with fail
            go_ret
            exact ⟨rfl, k0⟩
        · go_wp2_with fail
          refine (H3.out).mono ?_
          rintro e w2 ⟨rfl, rfl⟩
          go_wp2_with fail
          go_ret
          exact ⟨rfl, k0⟩
theorem has_fin : ∀ k : Fin 10, (hasC (signOf k.val) 113 = decide (0 ≤ Lib.indexByte (signOf k.val) 113)) ∧ (hasC (signOf k.val) 110 = decide (0 ≤ Lib.indexByte (signOf k.val) 110)) ∧ (hasC (signOf k.val) 97 = decide (0 ≤ Lib.indexByte (signOf k.val) 97)) ∧ (hasC (signOf k.val) 116 = decide (0 ≤ Lib.indexByte (signOf k.val) 116)) := by decide +kernel
end Go.Proofs.YtmcmicgdkdbgjaaDoor
