/- Texts side by side as one, the document's: walked. -/
import Derived.Test.YtnlncamiaddhfaaInfM
namespace Go.Proofs.Ytnlncamiaddhfaa
open Go.RowKit
attribute [local go_sem ↓] Go.wp_at_zero Go.wp_at_succ

theorem grown_set1 (w : World) (g j : Nat) (u : Value) : w.grownBy (w.setCell ⟨g, j, none⟩ u) (some g) :=
  ⟨rfl, rfl, rfl, by simp, fun k _ hk => heap_setCell_other w ⟨g, j, none⟩ k u (fun e => hk (by simp [e]))⟩
theorem Sl.far1 {w : World} {s n c g b : Nat} {xs : List Value} (h : Sl w s (some ⟨b, 0, none⟩) n c xs) (hne : b ≠ g) (j : Nat) (u : Value) : Sl (w.setCell ⟨g, j, none⟩ u) s (some ⟨b, 0, none⟩) n c xs :=
  h.grown (grown_set1 w g j u) (fun b' o' e => by
    injection e with e
    injection e with e1 _
    subst e1
    intro h'
    injection h' with h'
    exact hne h')
@[reducible] def setB9 (w : World) (g : Nat) (v0 v1 v2 v3 v4 v5 v6 v7 v8 : Value) : World :=
  ((((((((w.setCell ⟨g, 0, none⟩ v0).setCell ⟨g, 1, none⟩ v1).setCell ⟨g, 2, none⟩ v2).setCell ⟨g, 3, none⟩ v3).setCell ⟨g, 4, none⟩ v4).setCell ⟨g, 5, none⟩ v5).setCell ⟨g, 6, none⟩ v6).setCell ⟨g, 7, none⟩ v7).setCell ⟨g, 8, none⟩ v8
theorem kept_setB9 {W w : World} {g : Nat} (hk : Kept W w) (hb : W.heap.size ≤ g) (v0 v1 v2 v3 v4 v5 v6 v7 v8 : Value) : Kept W (setB9 w g v0 v1 v2 v3 v4 v5 v6 v7 v8) := by
  have k0 := hk.setCell (p := ⟨g, 0, none⟩) hb v0
  have k1 := k0.setCell (p := ⟨g, 1, none⟩) hb v1
  have k2 := k1.setCell (p := ⟨g, 2, none⟩) hb v2
  have k3 := k2.setCell (p := ⟨g, 3, none⟩) hb v3
  have k4 := k3.setCell (p := ⟨g, 4, none⟩) hb v4
  have k5 := k4.setCell (p := ⟨g, 5, none⟩) hb v5
  have k6 := k5.setCell (p := ⟨g, 6, none⟩) hb v6
  have k7 := k6.setCell (p := ⟨g, 7, none⟩) hb v7
  exact k7.setCell (p := ⟨g, 8, none⟩) hb v8
theorem blk_setB9 {w : World} {g : Nat} {t : TypeId} {a0 a1 a2 a3 a4 a5 a6 a7 a8 : Value} (h : Blk w g #[a0, a1, a2, a3, a4, a5, a6, a7, a8] t) (v0 v1 v2 v3 v4 v5 v6 v7 v8 : Value) : Blk (setB9 w g v0 v1 v2 v3 v4 v5 v6 v7 v8) g #[v0, v1, v2, v3, v4, v5, v6, v7, v8] t := by
  have h0 := h.set 0 v0
  have h1 := h0.set 1 v1
  have h2 := h1.set 2 v2
  have h3 := h2.set 3 v3
  have h4 := h3.set 4 v4
  have h5 := h4.set 5 v5
  have h6 := h5.set 6 v6
  have h7 := h6.set 7 v7
  have h8 := h7.set 8 v8
  simpa using h8
theorem sl_setB9 {w : World} {s n c g b : Nat} {xs : List Value} (h : Sl w s (some ⟨b, 0, none⟩) n c xs) (hne : b ≠ g) (v0 v1 v2 v3 v4 v5 v6 v7 v8 : Value) : Sl (setB9 w g v0 v1 v2 v3 v4 v5 v6 v7 v8) s (some ⟨b, 0, none⟩) n c xs :=
  ((((((((h.far1 hne 0 v0).far1 hne 1 v1).far1 hne 2 v2).far1 hne 3 v3).far1 hne 4 v4).far1 hne 5 v5).far1 hne 6 v6).far1 hne 7 v7).far1 hne 8 v8
set_option maxHeartbeats 8000000 in
theorem rmerged_any (A : Option Addr) (n c : Nat) (L : List Nd) (w : World) (hN : Nds w A n c L) (hn : n ≤ 1000) (hs : sumS (L.map Nd.tr) ≤ 1152921504606846976) :
    Calls Try.prog 10 #[.slice A n c] w fun e w' => MergedOf L w e w' := by
  obtain ⟨h, hok⟩ := hN
  have hL := h.llen Nd.cells_len (by omega)
  have HL := Lib.hid hL
  have HOK := Lib.hid hok
  have hcap := h.cap
  have hmax := h.max
  clear hL hok
  go_enter Try.func10, Try.ntmps10
  go_wp2_with fail
  go_loopw [3, 8] (fun v i wr => ∃ (k m : Nat) (O : List Nd), k ≤ n ∧ i = .int .i64 k ∧ m ≤ k ∧ wr.ownsRow w.heap.size 28 9 v m (O.flatMap Nd.cells) ∧ Hid (∀ x ∈ O, Org L x) ∧ Hid (O.map Nd.tr = mergedT ((L.map Nd.tr).take k)) ∧ Kept w wr) (fun _ i _ => n - (intOf i).toNat)
  case atStart => exact ⟨0, 0, [], Nat.zero_le _, rfl, Nat.le_refl _, ⟨rfl, .inl ⟨rfl, rfl⟩⟩, by unfold Hid; simp, rfl, Kept.refl _⟩
  case round =>
    obtain ⟨k, m, O, hk, rfl, hm, hown, HO, HI, hkept⟩ := hrel
    obtain ⟨VA, VC, rfl, hV⟩ := Sl.of_own hown
    by_cases hlt : k < n
    · obtain ⟨b, o, yk, yn, ybA, ybn, ybc, ybs, yaA, yan, yac, yal, yt, yg, ykA, ykn, ykc, yks, rfl, hy, y0, y1, y2, y3, y4, y5, y6, y7, y8, hb⟩ := cells9 (h.kept hkept) hlt
      have hyo : Org L _ := .inl (List.mem_of_getElem? hy)
      have hst := merged_take (map_get (f := Nd.tr) hy)
      rw [← HI.out, Nd.tr_mk] at hst
      have k2 := (Kept.refl wr).alloc (.cells (ndc yk yn ybA ybn ybc yaA yan yac yt yg ykA ykn ykc) 28)
      have bx := Blk.new wr (ndc yk yn ybA ybn ybc yaA yan yac yt yg ykA ykn ykc) 28
      by_cases h3 : yk = 3
      · subst h3
        cases ht : eqS yt ⟨#[]⟩
        · have ht' : (yt.toList == []) = false := (eqE2 yt).symm.trans ht
          have ht2 : yt.toList.isEmpty = false := (eqE yt).symm.trans ht
          have HT := Lib.hid ht
          clear ht
          by_cases hm0 : m = 0
          · subst hm0
            have hO0 : O = [] := List.eq_nil_of_length_eq_zero (hV.llen Nd.cells_len (by omega))
            have HST := Lib.hid (step_put (out := O.map Nd.tr) (n := Tr.mk 3 yn ybs yal yt yg (List.map Nd.tr yks)) (.inr ⟨HT.out, fun m hm' => by rw [hO0] at hm'; cases hm'⟩))
            clear hO0
            go_wp2_with (at_builtin; refine wpList_push w (by rfl) _ _ (by rfl) appT_rnd (by rfl) (hown.alloc _) (hkept.alloc _) (by rfl) ?_ ?_; (exact ⟨by simp, rfl, rfl, by omega⟩); intro v5 w5 hown5 hk5 _ _)
            go_roundw
            case rel =>
              refine ⟨k + 1, 0 + 1, O ++ [Nd.mk 3 yn ybA ybn ybc ybs yaA yan yac yal yt yg ykA ykn ykc yks], hlt, by go_num, ?_, ?_, ?_, ?_, hk5⟩
              rotate_left
              · rw [List.flatMap_append]
                exact hown5
              · intro x hx
                rcases List.mem_append.1 hx with hx | hx
                · exact HO.out x hx
                · rw [List.mem_singleton.1 hx]
                  exact hyo
              · unfold Hid
                rw [hst, HST.out, List.map_append, List.map_singleton, Nd.tr_mk]
              · omega
            case measure =>
              simp [intOf]
              omega
          · obtain ⟨q, rfl⟩ : ∃ q, m = q + 1 := ⟨m - 1, by omega⟩
            obtain ⟨g, rfl, hgb, hgs⟩ := own_form hown (by omega)
            have hOL : O.length = q + 1 := hV.llen Nd.cells_len (by omega)
            have hV2 := hV.kept k2
            have own2 := own_kept hown k2
            obtain ⟨zk, zn, zbA, zbn, zbc, zbs, zaA, zan, zac, zal, zt, zg, zkA, zkn, zkc, zks, hz, z0, z1, z2, z3, z4, z5, z6, z7, z8⟩ := own9 hV2 (k := q) (by omega)
            have hfz := own2.frozenAt
            have ht6 := bx.cell 6
            have hgs2 : g < (wr.alloc (.cells (ndc 3 yn ybA ybn ybc yaA yan yac yt yg ykA ykn ykc) 28)).heap.size := Nat.lt_of_lt_of_le hgs k2.size
            have hK := hkept.trans k2
            by_cases hz3 : zk = 3
            · subst hz3
              go_upto_region 5 with fail
              generalize wr.alloc (.cells (ndc 3 yn ybA ybn ybc yaA yan yac yt yg ykA ykn ykc) 28) = w3 at bx own2 hV2 z0 z1 z2 z3 z4 z5 z6 z7 z8 hfz hgs2 hK ht6 ⊢
              obtain ⟨g3, hg3⟩ : ∃ g3, wr.heap.size = g3 := ⟨_, rfl⟩
              rw [hg3] at bx ht6 ⊢
              have hg3s : g < g3 := by omega
              have hw3 : w.heap.size ≤ g3 := by have := hkept.size; omega
              have bf := bx.cell
              clear hg3 k2 hV hown y0 y1 y2 y3 y4 y5 y6 y7 y8
              have hsz : ¬ (9223372036854775807 < zt.size + yt.size) := by
                have e1 := sumS_mem (l := O.map Nd.tr) (x := Nd.tr _) (List.mem_map.2 ⟨_, List.mem_of_getElem? hz, rfl⟩)
                have e2 := sum_bd hy HI.out hs
                rw [Nd.txt_tr] at e1
                have e3 : zt.size ≤ sumS (O.map Nd.tr) := e1
                have e4 : sumS (O.map Nd.tr) + yt.size ≤ 1152921504606846976 := e2
                omega
              have hst2 := step_join (n := Tr.mk 3 yn ybs yal yt yg (List.map Nd.tr yks)) rfl HT.out (last_get hz hOL) (by rw [Nd.kind_tr]; rfl)
              rw [Nd.txt_tr] at hst2
              have HST := Lib.hid hst2
              clear hst2
              go_upto_region 9 with fail
              have hne : g ≠ g3 := by
                intro h'
                have := hg3s
                omega
              have k4 := (kept_setB9 hK hw3 (.int .i64 3) (.string ⟨#[]⟩) (.string ⟨#[]⟩) (.string ⟨#[]⟩) (.slice none 0 0) (.slice none 0 0) (.string (zt ++ yt)) (.string ⟨#[]⟩) (.slice none 0 0)).drew
              have b4 := (blk_setB9 bx (.int .i64 3) (.string ⟨#[]⟩) (.string ⟨#[]⟩) (.string ⟨#[]⟩) (.slice none 0 0) (.slice none 0 0) (.string (zt ++ yt)) (.string ⟨#[]⟩) (.slice none 0 0)).drew
              have s4 := (sl_setB9 hV2 hne (.int .i64 3) (.string ⟨#[]⟩) (.string ⟨#[]⟩) (.string ⟨#[]⟩) (.slice none 0 0) (.slice none 0 0) (.string (zt ++ yt)) (.string ⟨#[]⟩) (.slice none 0 0)).drew
              have b0 : w3.cell? ⟨g3, 0, none⟩ = some (.int .i64 3) := bf 0
              have b1 : w3.cell? ⟨g3, 1, none⟩ = some (.string yn.u) := bf 1
              have b2 : w3.cell? ⟨g3, 2, none⟩ = some (.string yn.l) := bf 2
              have b3 : w3.cell? ⟨g3, 3, none⟩ = some (.string yn.p) := bf 3
              have b4' : w3.cell? ⟨g3, 4, none⟩ = some (.slice ybA ybn ybc) := bf 4
              have b5 : w3.cell? ⟨g3, 5, none⟩ = some (.slice yaA yan yac) := bf 5
              have b6 : w3.cell? ⟨g3, 6, none⟩ = some (.string yt) := bf 6
              have b7 : w3.cell? ⟨g3, 7, none⟩ = some (.string yg) := bf 7
              have b8 : w3.cell? ⟨g3, 8, none⟩ = some (.slice ykA ykn ykc) := bf 8
              have bfz := bx.frozen
              have bfl := bx.lt
              go_region
              generalize (setB9 w3 g3 (.int .i64 3) (.string ⟨#[]⟩) (.string ⟨#[]⟩) (.string ⟨#[]⟩) (.slice none 0 0) (.slice none 0 0) (.string (zt ++ yt)) (.string ⟨#[]⟩) (.slice none 0 0)).drew = w5 at k4 b4 s4 ⊢
              clear bf bx bfz bfl b0 b1 b2 b3 b4' b5 b6 b7 b8 hfz ht6 z0 z1 z2 z3 z4 z5 z6 z7 z8 own2 hV2
              have bf := b4.cell
              have hcut := run_cut_h appT_rnd (some ⟨g, 0, none⟩) (q + 1) VC q (by have := s4.cap; omega)
              have o0 := own_lit (w := w5) (base := w.heap.size) (e := 28) (size := 9) (n := 0) (cs := []) (by rfl) (by omega) k4.size
              have k0 := k4.alloc (.cells #[] 28)
              have hto := s4.to (m := q) (by omega)
              rw [flat_take Nd.cells_len] at hto
              have hto2 := hto.kept ((Kept.refl w5).alloc (.cells #[] 28))
              have hg5 : g3 < w5.heap.size := b4.lt
              have hq5 : q ≤ 1000 := by omega
              have hb6 : ∀ w6 : World, (w5.alloc (.cells #[] 28)).grownBy w6 (some w5.heap.size) → Blk w6 g3 #[.int .i64 3, .string ⟨#[]⟩, .string ⟨#[]⟩, .string ⟨#[]⟩, .slice none 0 0, .slice none 0 0, .string (zt ++ yt), .string ⟨#[]⟩, .slice none 0 0] 28 := fun w6 h6 =>
                Blk.grown (b4.alloc _) h6 (by intro h'; injection h' with h'; omega)
              have q1 : (0 : Int) ≤ q := by omega
              have q2 : (q : Int) ≤ VC := by have := s4.cap; omega
              go_wp2_with (at_builtin; first
                | (refine wpList_appk w (by rfl) _ _ (by rfl) appT_rnd (by rfl) o0 k0 (by rfl) hto2 ?_ ?_; (exact ⟨nds_one _, by omega⟩); (intro v6 w6 hown6 hk6 hgr6 hob6; have bf6 := (hb6 w6 hgr6).cell; rw [Nat.zero_add, List.nil_append] at hown6))
                | (refine wpList_push w (by rfl) _ _ (by rfl) appT_rnd (by rfl) hown6 hk6 (by rfl) ?_ ?_; (exact ⟨by simp, rfl, rfl, by omega⟩); intro v7 w7 hown7 hk7 _ _))
              go_roundw
              case rel =>
                refine ⟨k + 1, q + 1, O.dropLast ++ [Nd.text (zt ++ yt)], hlt, by go_num, by omega, ?_, ?_, ?_, hk7⟩
                · rw [List.flatMap_append, List.dropLast_eq_take, hOL, Nat.add_sub_cancel]
                  exact hown7
                · intro x hx
                  rcases List.mem_append.1 hx with hx | hx
                  · exact HO.out x (List.dropLast_subset _ hx)
                  · rw [List.mem_singleton.1 hx]
                    exact .inr ⟨_, rfl⟩
                · unfold Hid
                  rw [hst, HST.out, List.map_append, List.map_dropLast, List.map_singleton, Nd.text_tr]
                  rfl
              case measure =>
                simp [intOf]
                omega
            · have HST := Lib.hid (step_put (out := O.map Nd.tr) (n := Tr.mk 3 yn ybs yal yt yg (List.map Nd.tr yks)) (.inr ⟨HT.out, fun m hm' => by
                rw [last_get hz hOL] at hm'
                injection hm' with hm'
                rw [← hm', Nd.kind_tr]
                exact hz3⟩))
              go_wp2_with (at_builtin; refine wpList_push w (by rfl) _ _ (by rfl) appT_rnd (by rfl) (hown.alloc _) (hkept.alloc _) (by rfl) ?_ ?_; (exact ⟨by simp, rfl, rfl, by omega⟩); intro v5 w5 hown5 hk5 _ _)
              go_roundw
              case rel =>
                refine ⟨k + 1, q + 1 + 1, O ++ [Nd.mk 3 yn ybA ybn ybc ybs yaA yan yac yal yt yg ykA ykn ykc yks], hlt, by go_num, ?_, ?_, ?_, ?_, hk5⟩
                rotate_left
                · rw [List.flatMap_append]
                  exact hown5
                · intro x hx
                  rcases List.mem_append.1 hx with hx | hx
                  · exact HO.out x hx
                  · rw [List.mem_singleton.1 hx]
                    exact hyo
                · unfold Hid
                  rw [hst, HST.out, List.map_append, List.map_singleton, Nd.tr_mk]
                · omega
              case measure =>
                simp [intOf]
                omega
        · have ht' : (yt.toList == []) = true := (eqE2 yt).symm.trans ht
          have ht2 : yt.toList.isEmpty = true := (eqE yt).symm.trans ht
          have HT := Lib.hid ht
          clear ht
          go_wp2_with fail
          go_roundw
          case rel => exact ⟨k + 1, m, O, hlt, by go_num, by omega, hown.alloc _, HO, by unfold Hid; rw [hst]; simp [mergeStep, Tr.kind, Tr.txt, HT.out], hkept.trans k2⟩
          case measure =>
            simp [intOf]
            omega
      · have HST := Lib.hid (step_put (out := O.map Nd.tr) (n := Tr.mk yk yn ybs yal yt yg (List.map Nd.tr yks)) (.inl h3))
        go_wp2_with (at_builtin; refine wpList_push w (by rfl) _ _ (by rfl) appT_rnd (by rfl) (hown.alloc _) (hkept.alloc _) (by rfl) ?_ ?_; (exact ⟨by simp, rfl, rfl, by omega⟩); intro v5 w5 hown5 hk5 _ _)
        go_roundw
        case rel =>
          refine ⟨k + 1, m + 1, O ++ [Nd.mk yk yn ybA ybn ybc ybs yaA yan yac yal yt yg ykA ykn ykc yks], hlt, by go_num, ?_, ?_, ?_, ?_, hk5⟩
          rotate_left
          · rw [List.flatMap_append]
            exact hown5
          · intro x hx
            rcases List.mem_append.1 hx with hx | hx
            · exact HO.out x hx
            · rw [List.mem_singleton.1 hx]
              exact hyo
          · unfold Hid
            rw [hst, HST.out, List.map_append, List.map_singleton, Nd.tr_mk]
          · omega
        case measure =>
          simp [intOf]
          omega
    · obtain rfl : k = n := by omega
      go_wp2_with fail
      go_ret
      refine ⟨_, _, _, O, rfl, ⟨hV, fun x hx => (org_ok HOK.out (HO.out x hx)).kept hkept⟩, ?_, hkept, HO.out, fun b' o' hn' e' => ?_⟩
      rotate_left
      · obtain ⟨g', hg', hg2, _⟩ := own_form hown hn'
        rw [hg'] at e'
        injection e' with e'
        injection e' with e' _
        omega
      rw [HI.out, List.take_of_length_le (by rw [List.length_map, HL.out]; exact Nat.le_refl _)]
end Go.Proofs.Ytnlncamiaddhfaa
