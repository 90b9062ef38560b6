/- The law ScopeAll, walked. -/
import Derived.Test.YtdlgjbijnhfbhaaScoT
import Derived.Test.YtdlgjbijnhfbhaaScoX
namespace Go.Proofs.Ytdlgjbijnhfbhaa
open Go.RowKit Go.Lib Go.Sort Go.Op
attribute [local go_sem ↓] Go.wp_at_zero Go.wp_at_succ

theorem rfound_some {B : Option Addr} {m d : Nat} {W : List Bd} {p : ByteArray} {b : Bd} {w : World} (hs : Sl w 2 B m d (W.flatMap Bd.cells)) (h : findB p W.reverse = some b) :
    Calls Try.prog 10 #[.slice B m d, .string p] w fun e w' => e = .returned (.tuple #[.string b.u, .bool true]) ∧ Kept w w' :=
  (rfind_any B m d W p w hs).mono fun e w' hf => by
    rw [h] at hf
    exact hf
theorem flatL_len (ls : List (List Bd)) : (flatL ls).length = ls.flatten.length := by
  unfold flatL
  rw [List.length_flatten, List.length_flatten, List.map_reverse, List.sum_reverse]
set_option maxRecDepth 100000 in
set_option maxHeartbeats 16000000 in
theorem scopeAll_any (A : Option Addr) (n c : Nat) (L : List Rw) (w : World) (h : Sl w 1 A n c (L.map Rw.cell)) (hok : ∀ r ∈ L, r.ok w) :
    Calls Try.prog 6 #[.slice A n c] w fun e w' => e = .returned (.bool true) ∧ Kept w w' := by
  have HM := Lib.hid (made_any A n c L w h hok)
  clear h hok
  go_enter Try.func6, Try.ntmps6
  go_wp2_with fail
  refine HM.out.mono ?_
  rintro e w1 ⟨v, u, rfl, ls, B, m, d, W, rfl, hWl, hm, hsc, hne, hsl, hfl, hun, k1⟩
  clear HM
  have he := eff_self hne
  have hal := all_any v ls w1 hsc (by rw [he, ← flatL_len, ← hfl]; omega)
  rw [he] at hal
  have HAL := Lib.hid hal
  have HFD := Lib.hid (show ∀ p, findB p W.reverse = findB p ls.flatten from fun p => by rw [hfl]; exact find_flat hun)
  have HCN := Lib.hid (show (nubF [] W).length = (nubF [] ls.flatten).length from nub_count fun x => by rw [hfl]; exact mem_rev_flat ls x)
  have HW := Lib.hid hWl
  clear hal he hfl hun hne hsc hWl
  go_wp2_with fail
  refine HAL.out.mono ?_
  rintro e w2 ⟨A2, c2, D, rfl, hD, k2, hp, hsd⟩
  have hnd : nodupP D := by
    have h1 := nub_nodup ls.flatten [] (by simp [nodupP])
    unfold nodupP at h1 ⊢
    exact (hp.map Bd.p).nodup_iff.2 h1
  have HFI := Lib.hid (show ∀ b ∈ D, findB b.p W.reverse = some b from fun b hb => by
    rw [HFD.out, ← List.nil_append ls.flatten, ← find_nub b.p ls.flatten []]
    exact find_of_nodup (nub_nodup ls.flatten [] (by simp [nodupP])) (hp.mem_iff.1 hb))
  have HST := Lib.hid (show ∀ (i : Nat) (x y : Bd), D[i]? = some x → D[i + 1]? = some y → bytesLess x.p.toList y.p.toList = true from fun i x y => strict hsd hnd)
  have HDL := Lib.hid (show D.length = (nubF [] W).length by rw [HCN.out]; exact hp.length_eq)
  have hDm : D.length ≤ 38 := by
    have h1 := nub_len W []
    have h2 := HW.out
    have h3 := HDL.out
    simp at h1
    omega
  obtain ⟨N, hN⟩ : ∃ N, D.length = N := ⟨_, rfl⟩
  rw [hN] at hD hDm HDL ⊢
  have HN := Lib.hid hN
  have K2 := k1.trans k2
  have hsl2 := hsl.kept k2
  clear HAL hp hsd hnd hN HFD HCN hsl k1 k2
  have hcap := hD.cap
  have hmax := hD.max
  have hcap2 := hsl2.cap
  have hmax2 := hsl2.max
  go_wp2_with fail
  go_loopw [27] (fun i wr => ∃ k : Nat, k ≤ N ∧ i = .int .i64 k ∧ Kept w2 wr) (fun i _ => N - (intOf i).toNat)
  case atStart => exact ⟨0, Nat.zero_le _, rfl, Kept.refl _⟩
  case round =>
    obtain ⟨k, hk, rfl, hkr⟩ := hrel
    by_cases hlt : k < N
    · obtain ⟨b, o, x, rfl, hx, x0, x1, hbb⟩ := elem_bd (hD.kept hkr) hlt
      have hfi := HFI.out x (List.mem_of_getElem? hx)
      have HX := Lib.hid hx
      clear hx
      have kb : Kept wr _ := (Kept.refl wr).alloc (.cells #[.string x.p, .string x.u] 45)
      have bx := Blk.new wr #[.string x.p, .string x.u] 45
      go_upto_region 6 with fail
      generalize wr.alloc (.cells #[.string x.p, .string x.u] 45) = w3 at kb bx ⊢
      obtain ⟨g3, hg3⟩ : ∃ g3, wr.heap.size = g3 := ⟨_, rfl⟩
      rw [hg3] at bx ⊢
      clear hg3
      have bf0 := bx.cell 0
      have HRF := Lib.hid (rfound_some ((hsl2.kept hkr).kept kb) hfi)
      clear hfi x0 x1
      go_wp2_with fail
      refine HRF.out.mono ?_
      rintro e w4 ⟨rfl, k4⟩
      have b40 := (bx.kept k4).cell 0
      have b41 := (bx.kept k4).cell 1
      have k34 := (hkr.trans kb).trans k4
      have sx : (x.u.toList != x.u.toList) = false := by simp
      clear bx bf0 HRF kb hbb
      rcases Nat.eq_zero_or_pos k with h0 | h0
      · subst h0
        go_upto_region 7 with fail
        go_quiet (fail)
        go_wp2_with fail
        go_roundw
        case rel => exact ⟨1, hlt, by go_num, k34.drewN _⟩
        case measure =>
          simp [intOf]
          omega
      · obtain ⟨j, rfl⟩ : ∃ j, k = j + 1 := ⟨k - 1, by omega⟩
        obtain ⟨b', o', y, he', hy, y0, y1, hbb'⟩ := elem_bd (hD.kept k34) (show j < N by omega)
        injection he' with he'
        injection he' with e1 e2 _
        subst e1 e2
        have hst := HST.out j y x hy HX.out
        have hge : (!bytesLess y.p.toList x.p.toList) = false := by rw [hst]; rfl
        have hsub : IntKind.i64.wrap (((j + 1 : Nat) : Int) - 1) = (j : Int) := by
          rw [show ((j + 1 : Nat) : Int) - 1 = j by omega]
          exact IntWalk.i64_in _ (by omega)
        clear hy HX
        go_upto_region 7 with fail
        go_quiet (fail)
        go_wp2_with fail
        go_roundw
        case rel => exact ⟨j + 2, by omega, by go_num, k34.drewN _⟩
        case measure =>
          simp [intOf]
          omega
    · obtain rfl : k = N := by omega
      obtain ⟨w5, hw5⟩ : ∃ z, z = wr := ⟨_, rfl⟩
      subst hw5
      have hW5 := hsl2.kept hkr
      have HW5 := Lib.hid hW5
      clear hW5 hsl2 hD HFI HST
      go_wp2_with fail
      go_loopw [11, 65] (fun t i wr => ∃ k' : Nat, k' ≤ m ∧ i = .int .i64 k' ∧ t = .int .i64 (nubF [] (W.take k')).length ∧ Kept w5 wr) (fun _ i _ => m - (intOf i).toNat)
      case atStart => exact ⟨0, Nat.zero_le _, rfl, rfl, Kept.refl _⟩
      case round =>
        obtain ⟨i, hi, rfl, rfl, hir⟩ := hrel
        by_cases hil : i < m
        · obtain ⟨b, o, x, rfl, hx, x0, x1, hbb⟩ := elem_bd (HW5.out.kept hir) hil
          have hnub : nubF [] (W.take (i + 1)) = if hasP x.p (W.take i) then nubF [] (W.take i) else nubF [] (W.take i) ++ [x] := by
            rw [take_cons hx, nub_snoc, has_nub, List.nil_append]
          have hnl := nub_len (W.take i) []
          rw [List.length_take] at hnl
          simp only [List.length_nil] at hnl
          have hnl2 : (nubF [] (W.take i)).length ≤ 38 := by omega
          have HNB := Lib.hid hnub
          clear hnub hnl hx
          obtain ⟨T, hT⟩ : ∃ T, (nubF [] (W.take i)).length = T := ⟨_, rfl⟩
          rw [hT] at hnl2 ⊢
          have HT := Lib.hid hT
          clear hT
          have kb : Kept wr _ := (Kept.refl wr).alloc (.cells #[.string x.p, .string x.u] 46)
          have bx := Blk.new wr #[.string x.p, .string x.u] 46
          go_upto_region 14 with fail
          generalize wr.alloc (.cells #[.string x.p, .string x.u] 46) = w6 at kb bx ⊢
          obtain ⟨g3, hg3⟩ : ∃ g3, wr.heap.size = g3 := ⟨_, rfl⟩
          rw [hg3] at bx ⊢
          clear hg3
          have hcut := run_cut_h appT_rbds (some ⟨b, o, none⟩) m d i (by omega)
          have p1 : (0 : Int) ≤ i := by omega
          have p2 : (i : Int) ≤ d := by omega
          have hto := ((HW5.out.kept hir).kept kb).to (m := i) (by omega)
          rw [flat_take (s := 2) (enc := Bd.cells) (fun _ => rfl)] at hto
          have k56 := hir.trans kb
          clear x0 x1 hbb
          go_wp2_with fail
          go_loopw [14, 74] (fun f j wr => ∃ q : Nat, q ≤ i ∧ j = .int .i64 q ∧ f = .bool (!hasP x.p ((W.take i).take q)) ∧ Kept w6 wr) (fun _ j _ => i - (intOf j).toNat)
          case atStart => exact ⟨0, Nat.zero_le _, rfl, rfl, Kept.refl _⟩
          case round =>
            obtain ⟨q, hq, rfl, rfl, hqr⟩ := hrel
            by_cases hql : q < i
            · obtain ⟨b', o', y, he', hy, y0, y1, hbb'⟩ := elem_bd (hto.kept hqr) hql
              injection he' with he'
              injection he' with e1 e2 _
              subst e1 e2
              have hsn : hasP x.p ((W.take i).take (q + 1)) = (hasP x.p ((W.take i).take q) || eqS y.p x.p) := by
                rw [take_cons hy]
                unfold hasP
                rw [List.any_append]
                simp
              obtain ⟨f, hf⟩ : ∃ f, hasP x.p ((W.take i).take q) = f := ⟨_, rfl⟩
              rw [hf] at hsn ⊢
              have HSN := Lib.hid hsn
              clear hsn hf hy
              have bq := (bx.kept hqr).cell
              have bq0 := bq 0
              have hgl := (bx.kept hqr).lt
              cases f
              · obtain ⟨t, ht⟩ : ∃ t, eqS y.p x.p = t := ⟨_, rfl⟩
                have ht' : (y.p.toList == x.p.toList) = t := ht
                have HSN2 : Hid (hasP x.p ((W.take i).take (q + 1)) = t) := by
                  have := HSN.out
                  rw [ht] at this
                  exact this
                clear HSN ht
                go_wp2_with fail
                go_roundw
                case rel => exact ⟨q + 1, hql, by go_num, by rw [HSN2.out]; first | done | rfl | (cases t <;> rfl), hqr.alloc _⟩
                case measure =>
                  simp [intOf]
                  omega
              · have HSN2 : Hid (hasP x.p ((W.take i).take (q + 1)) = true) := HSN.out
                clear HSN
                go_wp2_with fail
                go_roundw
                case rel => exact ⟨q + 1, hql, by go_num, by rw [HSN2.out]; rfl, hqr.alloc _⟩
                case measure =>
                  simp [intOf]
                  omega
            · obtain rfl : q = i := by omega
              have htk : (W.take q).take q = W.take q := List.take_of_length_le (by rw [List.length_take]; omega)
              rw [htk]
              clear htk hto
              cases hf : hasP x.p (W.take q)
              · have hE : (nubF [] (W.take (q + 1))).length = T + 1 := by
                  rw [HNB.out, hf, if_neg (by simp), List.length_append, HT.out]
                  rfl
                have HE := Lib.hid hE
                clear hE hf HNB
                go_wp2_with fail
                go_roundw
                case rel => exact ⟨q + 1, hil, by go_num, by rw [HE.out]; go_num, k56.trans hqr⟩
                case measure =>
                  simp [intOf]
                  omega
              · have hE : (nubF [] (W.take (q + 1))).length = T := by
                  rw [HNB.out, hf, if_pos rfl, HT.out]
                have HE := Lib.hid hE
                clear hE hf HNB
                go_wp2_with fail
                go_roundw
                case rel => exact ⟨q + 1, hil, by go_num, by rw [HE.out], k56.trans hqr⟩
                case measure =>
                  simp [intOf]
                  omega
        · obtain rfl : i = m := by omega
          have hfin : (nubF [] (W.take i)).length = k := by
            rw [List.take_of_length_le (by have := HW.out; omega), ← HDL.out]
          rw [hfin]
          clear hfin
          go_wp2_with fail
          refine (scopeAwake_any _).mono ?_
          rintro e w8 ⟨rfl, k8⟩
          go_wp2_with fail
          go_ret
          exact ⟨rfl, ((K2.trans hkr).trans hir).trans k8⟩
end Go.Proofs.Ytdlgjbijnhfbhaa
