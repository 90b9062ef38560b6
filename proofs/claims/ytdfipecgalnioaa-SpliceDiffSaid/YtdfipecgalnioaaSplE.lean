/- The law SpliceDiff: plain, and walked. -/
import Derived.Test.YtdfipecgalnioaaSplD
namespace Go.Proofs.Ytdfipecgalnioaa
open Go.RowKit
attribute [local go_sem ↓] Go.wp_at_zero Go.wp_at_succ

def diffK (a b : List Int) (F N : Nat) : Kc := ⟨F, (a.length - N : Nat), (b.drop F).take (b.length - N - F)⟩
section
variable {a b : List Int} {F N : Nat}
theorem Diffs.lies (h : Diffs a b F N) : Lies 0 [diffK a b F N] a.length := by
  have := h.le
  refine ⟨by show ((0 : Nat) : Int) ≤ (F : Int); omega, by show (F : Int) ≤ ((a.length - N : Nat) : Int); omega, ?_⟩
  show ((a.length - N : Nat) : Int).toNat ≤ a.length
  omega
theorem Diffs.err (h : Diffs a b F N) : errA a [diffK a b F N] = 0 := by
  refine errA_zero (lies_err h.lies) (fun c hc => ?_)
  rw [lies_srt h.lies] at hc
  simp at hc
  subst hc
  show ((a.length - N : Nat) : Int) ≤ _
  omega
theorem Diffs.out (h : Diffs a b F N) : outF a 0 (srt [diffK a b F N]) = b := by
  have hle := h.le
  rw [lies_srt h.lies]
  show (a.drop 0).take ((F : Int).toNat - 0) ++ (b.drop F).take (b.length - N - F) ++ a.drop ((a.length - N : Nat) : Int).toNat = b
  rw [Int.toNat_natCast, Int.toNat_natCast, List.drop_zero, Nat.sub_zero]
  have e1 : a.take F = b.take F := by
    apply List.ext_getElem?
    intro i
    rw [List.getElem?_take, List.getElem?_take]
    split
    · exact h.pre i (by assumption)
    · rfl
  have e2 : a.drop (a.length - N) = b.drop (b.length - N) := by
    apply List.ext_getElem?
    intro i
    rw [List.getElem?_drop, List.getElem?_drop]
    by_cases hi : i < N
    · have := h.suf (N - 1 - i) (by omega)
      rw [show a.length - 1 - (N - 1 - i) = a.length - N + i by omega, show b.length - 1 - (N - 1 - i) = b.length - N + i by omega] at this
      exact this
    · rw [List.getElem?_eq_none (by omega), List.getElem?_eq_none (by omega)]
  rw [e1, e2]
  have e3 : (b.drop F).take (b.length - N - F) ++ b.drop (b.length - N) = b.drop F := by
    conv => rhs; rw [← List.take_append_drop (b.length - N - F) (b.drop F)]
    rw [List.drop_drop, show F + (b.length - N - F) = b.length - N by omega]
  rw [List.append_assoc, e3, List.take_append_drop]
theorem Diffs.some (h : Diffs a b F N) (hne : a ≠ b) : F < a.length - N ∨ F < b.length - N := by
  have hle := h.le
  rcases Nat.lt_or_ge F (a.length - N) with h1 | h1
  · exact .inl h1
  rcases Nat.lt_or_ge F (b.length - N) with h2 | h2
  · exact .inr h2
  exfalso
  apply hne
  have := h.out
  rw [lies_srt h.lies] at this
  have hb0 : (b.drop F).take (b.length - N - F) = [] := by rw [show b.length - N - F = 0 by omega, List.take_zero]
  have h3 : (a.drop 0).take ((F : Int).toNat - 0) ++ (b.drop F).take (b.length - N - F) ++ a.drop ((a.length - N : Nat) : Int).toNat = b := this
  rw [hb0, List.append_nil, Int.toNat_natCast, Int.toNat_natCast, List.drop_zero, Nat.sub_zero, show a.length - N = F by omega, List.take_append_drop] at h3
  exact h3
theorem Diffs.first (h : Diffs a b F N) (h1 : F < a.length - N) (h2 : F < b.length - N) : a[F]? ≠ b[F]? := h.endF (by omega)
theorem Diffs.last (h : Diffs a b F N) (h1 : F < a.length - N) (h2 : F < b.length - N) : a[a.length - N - 1]? ≠ b[b.length - N - 1]? := by
  have := h.endN (by omega)
  rwa [show a.length - 1 - N = a.length - N - 1 by omega, show b.length - 1 - N = b.length - N - 1 by omega] at this
end

set_option maxRecDepth 100000 in
set_option maxHeartbeats 8000000 in
theorem spliceDiff_any (A : Option Addr) (n c : Nat) (a : List Int) (A' : Option Addr) (n' c' : Nat) (b : List Int) (w : World) (h : Sl w 1 A n c (a.map (Value.int .u8))) (h' : Sl w 1 A' n' c' (b.map (Value.int .u8))) (ha : ∀ x ∈ a, 0 ≤ x ∧ x ≤ 255) (hb : ∀ x ∈ b, 0 ≤ x ∧ x ≤ 255) :
    Calls Try.prog 6 #[.slice A n c, .slice A' n' c'] w fun e w' => e = .returned (.bool true) ∧ Kept w w' := by
  have hsh := short_any A n c a w h
  have hsh' := fun w1 (k : Kept w w1) => short_any A' n' c' b w1 (h'.kept k)
  have hB0 := short_sl h
  have hB1 := short_sl h'
  have m1 : min n 80 ≤ 80 := Nat.min_le_right _ _
  have m2 : min n' 80 ≤ 80 := Nat.min_le_right _ _
  have ha1 : ∀ x ∈ a.take 80, 0 ≤ x ∧ x ≤ 255 := fun x hx => ha x (List.mem_of_mem_take hx)
  have hb1 : ∀ x ∈ b.take 80, 0 ≤ x ∧ x ≤ 255 := fun x hx => hb x (List.mem_of_mem_take hx)
  obtain ⟨M, hM⟩ : ∃ z, min n 80 = z := ⟨_, rfl⟩
  obtain ⟨M', hM'⟩ : ∃ z, min n' 80 = z := ⟨_, rfl⟩
  rw [hM] at hsh hB0 m1
  rw [hM'] at hsh' hB1 m2
  obtain ⟨u, hu⟩ : ∃ z, a.take 80 = z := ⟨_, rfl⟩
  obtain ⟨v, hv⟩ : ∃ z, b.take 80 = z := ⟨_, rfl⟩
  rw [hu] at hB0 ha1
  rw [hv] at hB1 hb1
  have HSH := Lib.hid hsh
  have HSH' := Lib.hid hsh'
  clear hsh hsh' hM hM' hu hv h h' ha hb
  have lu := hB0.llen1
  have lv := hB1.llen1
  by_cases huv : u = v
  · subst huv
    have hdf := fun w1 (k : Kept w w1) => diff_no A M c u A' M' c' w1 (hB0.kept k) (hB1.kept k) ha1
    have HDF := Lib.hid hdf
    clear hdf lu lv
    go_enter Try.func6, Try.ntmps6
    go_wp2_with fail
    refine HSH.out.mono ?_
    rintro e w1 ⟨rfl, k1⟩
    go_wp2_with fail
    refine (HSH'.out _ k1).mono ?_
    rintro e w2 ⟨rfl, k2⟩
    have k12 := k1.trans k2
    go_wp2_with fail
    refine (HDF.out _ k12).mono ?_
    rintro e w3 ⟨rfl, k3⟩
    have k13 := k12.trans k3
    have kx := (Kept.refl w3).alloc (.cells #[.int .i64 0, .int .i64 0, .slice none 0 0] 44)
    have bx := Blk.new w3 #[.int .i64 0, .int .i64 0, .slice none 0 0] 44
    have st1 := run_str (P := Try.prog) Try.underlying34 Try.underlying5 Try.underlying9 (hB0.kept (k13.trans kx))
    have st2 := run_str (P := Try.prog) Try.underlying34 Try.underlying5 Try.underlying9 (hB1.kept (k13.trans kx))
    generalize strOfNums u = st at st1 st2
    go_upto_region 4 with fail
    generalize w3.alloc (.cells #[.int .i64 0, .int .i64 0, .slice none 0 0] 44) = w4 at kx bx st1 st2 ⊢
    obtain ⟨g0, hg0⟩ : ∃ g, w3.heap.size = g := ⟨_, rfl⟩
    rw [hg0] at bx ⊢
    have bf := bx.cell
    clear hg0
    go_wp2_with fail
    refine (awake_any _).mono ?_
    rintro e w5 ⟨rfl, k5⟩
    go_wp2_with fail
    go_ret
    exact ⟨rfl, (k13.trans kx).trans k5⟩
  · have hdf := fun w1 (k : Kept w w1) => diff_yes A M c u A' M' c' v w1 (hB0.kept k) (hB1.kept k) ha1 hb1 huv (by omega) (by omega)
    have hne : ((strOfNums u).toList == (strOfNums v).toList) = false := by rw [nums_eq ha1 hb1]; simpa using huv
    have HDF := Lib.hid hdf
    have HNE := Lib.hid hne
    have HUV := Lib.hid huv
    clear hdf hne huv
    go_enter Try.func6, Try.ntmps6
    go_wp2_with fail
    refine HSH.out.mono ?_
    rintro e w1 ⟨rfl, k1⟩
    go_wp2_with fail
    refine (HSH'.out _ k1).mono ?_
    rintro e w2 ⟨rfl, k2⟩
    have k12 := k1.trans k2
    go_wp2_with fail
    refine (HDF.out _ k12).mono ?_
    rintro e w3 ⟨F, N, VA, VC, hD, rfl, hV, k3⟩
    have k13 := k12.trans k3
    have hle := hD.le
    have herr := hD.err
    have hout := hD.out
    have hsome := hD.some HUV.out
    have hfirst := hD.first
    have hlast := hD.last
    rw [lu, lv] at hle
    rw [lu, lv] at hsome
    rw [lu, lv] at hfirst hlast
    obtain ⟨E1, hE1⟩ : ∃ z, M - N = z := ⟨_, rfl⟩
    obtain ⟨LB, hLB⟩ : ∃ z, M' - N - F = z := ⟨_, rfl⟩
    obtain ⟨BB, hBB⟩ : ∃ z, (v.drop F).take (M' - N - F) = z := ⟨_, rfl⟩
    have hkc : diffK u v F N = ⟨F, E1, BB⟩ := by unfold diffK; rw [lu, lv, hE1, hBB]
    rw [hkc] at herr hout
    rw [hBB] at hV
    rw [hLB] at hV ⊢
    rw [hE1]
    have kx := (Kept.refl w3).alloc (.cells #[.int .i64 F, .int .i64 E1, .slice VA LB VC] 44)
    have bx := Blk.new w3 #[.int .i64 F, .int .i64 E1, .slice VA LB VC] 44
    have f1 : F ≤ E1 := by omega
    have f2 : E1 ≤ M := by omega
    have f3 : LB ≤ M' := by omega
    have hsome' : F < E1 ∨ 0 < LB := by omega
    have hfirst' : F < E1 → 0 < LB → u[F]? ≠ BB[0]? := by
      intro g1 g2
      have := hfirst (by omega) (by omega)
      rw [← hBB, List.getElem?_take, if_pos (by omega), List.getElem?_drop, Nat.add_zero]
      exact this
    have hlast' : F < E1 → 0 < LB → u[E1 - 1]? ≠ BB[LB - 1]? := by
      intro g1 g2
      have := hlast (by omega) (by omega)
      rw [← hBB, List.getElem?_take, if_pos (by omega), List.getElem?_drop, ← hE1]
      rwa [show F + (LB - 1) = M' - N - 1 by omega]
    have HF1 := Lib.hid hfirst'
    have HL1 := Lib.hid hlast'
    have HERR := Lib.hid herr
    have HOUT := Lib.hid hout
    clear hfirst hlast hfirst' hlast' herr hout hkc hBB hLB hE1 hle hsome hD
    go_upto_region 5 with fail
    generalize w3.alloc (.cells #[.int .i64 F, .int .i64 E1, .slice VA LB VC] 44) = w4 at kx bx ⊢
    obtain ⟨g0, hg0⟩ : ∃ g, w3.heap.size = g := ⟨_, rfl⟩
    rw [hg0] at bx ⊢
    clear hg0
    have bf := bx.cell
    have k14 := k13.trans kx
    have hV4 := hV.kept kx
    have lBB := hV.llen1
    obtain ⟨y, hy⟩ : ∃ y : Ch, y = ⟨F, E1, VA, LB, VC, BB⟩ := ⟨_, rfl⟩
    have hyk : [y].map Ch.k = [⟨F, E1, BB⟩] := by rw [hy]; rfl
    have hyok : ∀ w', Kept w4 w' → ∀ x ∈ [y], x.ok w' := by
      intro w' hk x hx
      simp at hx
      subst hx
      rw [hy]
      exact ⟨hV4.kept hk, ⟨by dsimp only; omega, by dsimp only; omega⟩, ⟨by dsimp only; omega, by dsimp only; omega⟩⟩
    have hsl := Sl.litf (w := w4) (t := 44) (cs := [.int .i64 F, .int .i64 E1, .slice VA LB VC]) (n := 1) (s := 3) (enc := Ch.cells) (l := [y]) (by rw [hy]; rfl) rfl (by omega)
    have ky := (Kept.refl w4).alloc (.cells #[.int .i64 F, .int .i64 E1, .slice VA LB VC] 44)
    have hap := apply_any A M c u (some ⟨w4.heap.size, 0, none⟩) 1 1 [y] _ (hB0.kept (k14.trans ky)) (by omega) hsl (hyok _ ky) (by omega) (by
      intro x hx
      simp at hx
      subst hx
      rw [hy]
      dsimp only
      omega)
    rw [hyk] at hap
    have hap2 := hap.mono fun e w' h => done_of h HERR.out
    unfold DoneOf at hap2
    rw [HOUT.out] at hap2
    have HAP := Lib.hid hap2
    clear hap hap2 hsl hyk hy
    go_wp2_with fail
    refine HAP.out.mono ?_
    rintro e w5 ⟨A5, n5, c5, A6, n6, c6, L6, rfl, hO, _, _, _, k5⟩
    have k45 := ky.trans k5
    have b5 := bx.kept k45
    have bf5 := b5.cell
    have hu5 := hB0.kept (k14.trans k45)
    have hv5 := hB1.kept (k14.trans k45)
    have hV5 := hV4.kept k45
    have st1 := run_str (P := Try.prog) Try.underlying34 Try.underlying5 Try.underlying9 hO
    have st2 := run_str (P := Try.prog) Try.underlying34 Try.underlying5 Try.underlying9 hv5
    have st3 := run_str (P := Try.prog) Try.underlying34 Try.underlying5 Try.underlying9 hu5
    have hne := HNE.out
    generalize strOfNums u = su at st3 hne
    generalize strOfNums v = sv at st1 st2 hne
    have k15 := k14.trans k45
    clear bf HAP hyok ky k5 HNE
    obtain ⟨D, hD⟩ : ∃ z, E1 - F = z := ⟨_, rfl⟩
    have hDz : (E1 : Int) - F = (D : Int) := by omega
    go_upto_region 9 with fail
    clear st1 st2 st3 hne hDz
    go_cut [112] (fun s wx => s = .bool false ∧ Kept w5 wx)
    case first =>
      rcases Nat.eq_zero_or_pos D with hd | hd
      · have d1 : decide (0 < D) = false := by simp; omega
        clear hd
        go_region
        go_wp2_with fail
        go_meet
        exact ⟨rfl, (Kept.refl _).drew⟩
      rcases Nat.eq_zero_or_pos LB with hl | hl
      · have d1 : decide (0 < LB) = false := by simp; omega
        have d2 : decide (0 < D) = true := by simp; omega
        clear hl hd
        go_region
        go_wp2_with fail
        go_meet
        exact ⟨rfl, (Kept.refl _).drew⟩
      · obtain ⟨b1, o1, x1, hA1, hx1, cx1, hb1⟩ := hu5.oneb (k := F) (by omega)
        obtain ⟨b2, o2, x2, hA2, hx2, cx2, hb2⟩ := hu5.oneb (k := E1 - 1) (by omega)
        obtain ⟨b3, o3, x3, rfl, hx3, cx3, hb3⟩ := hV5.oneb (k := 0) (by omega)
        obtain ⟨b4, o4, x4, hA4, hx4, cx4, hb4⟩ := hV5.oneb (k := LB - 1) (by omega)
        subst hA1
        injection hA2 with hA2
        injection hA2 with q1 q2
        subst q1 q2
        injection hA4 with hA4
        injection hA4 with q1 q2
        subst q1 q2
        have e1 : (x1 == x3) = false := by
          have := HF1.out (by omega) hl
          rw [hx1, hx3] at this
          simpa using this
        have e2 : (x2 == x4) = false := by
          have := HL1.out (by omega) hl
          rw [hx2, hx4] at this
          simpa using this
        obtain ⟨E0, hE0⟩ : ∃ z, E1 - 1 = z := ⟨_, rfl⟩
        obtain ⟨L0, hL0⟩ : ∃ z, LB - 1 = z := ⟨_, rfl⟩
        rw [hE0] at cx2
        rw [hL0] at cx4
        rw [Nat.add_zero] at cx3
        have w1 : IntKind.i64.wrap ((E1 : Int) - 1) = (E0 : Int) := by rw [IntWalk.i64_in _ (by omega)]; omega
        have w2 : IntKind.i64.wrap ((LB : Int) - 1) = (L0 : Int) := by rw [IntWalk.i64_in _ (by omega)]; omega
        have g1 : (F : Int) < M := by omega
        have g2 : (0 : Int) ≤ F := by omega
        have g3 : (E0 : Int) < M := by omega
        have g4 : (0 : Int) ≤ E0 := by omega
        have g5 : (L0 : Int) < LB := by omega
        have g6 : (0 : Int) ≤ L0 := by omega
        clear hx1 hx2 hx3 hx4 hE0 hL0 hb1 hb2 hb3 hb4
        go_quiet (fail)
        go_wp2_with fail
        go_meet
        exact ⟨rfl, (Kept.refl _).drewN _⟩
    case rest =>
      obtain ⟨rfl, kc⟩ := hcut
      have bc := (b5.kept kc).cell
      have hor : 0 < D ∨ 0 < LB := by omega
      rcases Nat.eq_zero_or_pos D with hd | hd
      · have d1 : decide (0 < D) = false := by simp; omega
        have d2 : decide (0 < LB) = true := by simp; omega
        clear hd hor
        go_wp2_with fail
        refine (awake_any _).mono ?_
        rintro e w7 ⟨rfl, k7⟩
        go_wp2_with fail
        go_ret
        exact ⟨rfl, (k15.trans kc).trans k7⟩
      · have d1 : decide (0 < D) = true := by simp; omega
        clear hd hor
        go_wp2_with fail
        refine (awake_any _).mono ?_
        rintro e w7 ⟨rfl, k7⟩
        go_wp2_with fail
        go_ret
        exact ⟨rfl, (k15.trans kc).trans k7⟩
end Go.Proofs.Ytdfipecgalnioaa
