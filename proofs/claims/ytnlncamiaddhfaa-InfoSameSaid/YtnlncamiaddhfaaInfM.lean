/- Texts side by side as one: walked, the program's and the document's. -/
import Derived.Test.YtnlncamiaddhfaaInfW
import Derived.Laws.OwnMore
namespace Go.Proofs.Ytnlncamiaddhfaa
open Go.RowKit
attribute [local go_sem ↓] Go.wp_at_zero Go.wp_at_succ

theorem appT_nd : AppT Try.prog 30 36 9 := appT_mk (z := .agg #[.int .i64 0, .string ⟨#[]⟩, .string ⟨#[]⟩, .string ⟨#[]⟩, .slice none 0 0, .slice none 0 0, .string ⟨#[]⟩, .string ⟨#[]⟩, .slice none 0 0]) (bytes := 160) Try.underlying30 (by kernel_rfl) rfl (by omega) (by omega)
theorem appT_rnd : AppT Try.prog 26 28 9 := appT_mk (z := .agg #[.int .i64 0, .string ⟨#[]⟩, .string ⟨#[]⟩, .string ⟨#[]⟩, .slice none 0 0, .slice none 0 0, .string ⟨#[]⟩, .string ⟨#[]⟩, .slice none 0 0]) (bytes := 160) Try.underlying26 (by kernel_rfl) rfl (by omega) (by omega)

/-- Nodes that lie one behind the other. -/
def Nds (w : World) (A : Option Addr) (n c : Nat) (L : List Nd) : Prop := Sl w 9 A n c (L.flatMap Nd.cells) ∧ ∀ x ∈ L, x.ok w
theorem Nds.kept {w w' : World} {A : Option Addr} {n c : Nat} {L : List Nd} (k : Kept w w') (h : Nds w A n c L) : Nds w' A n c L := ⟨h.1.kept k, fun x hx => (h.2 x hx).kept k⟩
theorem Nds.len {w : World} {A : Option Addr} {n c : Nat} {L : List Nd} (h : Nds w A n c L) : L.length = n := h.1.llen Nd.cells_len (by omega)
theorem nds_one (l : List Nd) : (l.flatMap Nd.cells).all (fun u => u.oneCell') = true := by
  rw [List.all_eq_true]
  intro v hv
  obtain ⟨y, _, hy⟩ := List.mem_flatMap.1 hv
  obtain ⟨⟩ := y
  simp [Nd.cells] at hy
  rcases hy with rfl | rfl | rfl | rfl | rfl | rfl | rfl | rfl | rfl <;> rfl
theorem own_form {w : World} {base : Nat} {e : TypeId} {size n c : Nat} {A : Option Addr} {xs : List Value} (h : w.ownsRow base e size (.slice A n c) n xs) (hn : 0 < n) :
    ∃ g, A = some ⟨g, 0, none⟩ ∧ base ≤ g ∧ g < w.heap.size := by
  rcases h.2 with ⟨_, h0⟩ | ⟨g, cap, cur, hv, hb, hg, _⟩
  · omega
  · injection hv with h1 h2 h3
    refine ⟨g, h1, hb, ?_⟩
    rcases Nat.lt_or_ge g w.heap.size with hlt | hge
    · exact hlt
    · rw [Array.getElem?_eq_none hge] at hg; cases hg
theorem eqE (x : ByteArray) : eqS x ⟨#[]⟩ = x.toList.isEmpty := by
  unfold eqS
  rw [show (⟨#[]⟩ : ByteArray).toList = [] by rw [ByteArray.toList_eq]]
  cases x.toList <;> rfl
theorem eqE2 (x : ByteArray) : eqS x ⟨#[]⟩ = (x.toList == []) := by
  unfold eqS
  rw [show (⟨#[]⟩ : ByteArray).toList = [] by rw [ByteArray.toList_eq]]
theorem own9 {w : World} {g n c : Nat} {L : List Nd} (h : Sl w 9 (some ⟨g, 0, none⟩) n c (L.flatMap Nd.cells)) {k : Nat} (hk : k < n) :
    ∃ yk yn ybA ybn ybc ybs yaA yan yac yal yt yg ykA ykn ykc yks, L[k]? = some (Nd.mk yk yn ybA ybn ybc ybs yaA yan yac yal yt yg ykA ykn ykc yks) ∧
      w.cell? ⟨g, k * 9, none⟩ = some (.int .i64 yk) ∧ w.cell? ⟨g, k * 9 + 1, none⟩ = some (.string yn.u) ∧ w.cell? ⟨g, k * 9 + 2, none⟩ = some (.string yn.l) ∧ w.cell? ⟨g, k * 9 + 3, none⟩ = some (.string yn.p) ∧
      w.cell? ⟨g, k * 9 + 4, none⟩ = some (.slice ybA ybn ybc) ∧ w.cell? ⟨g, k * 9 + 5, none⟩ = some (.slice yaA yan yac) ∧ w.cell? ⟨g, k * 9 + 6, none⟩ = some (.string yt) ∧ w.cell? ⟨g, k * 9 + 7, none⟩ = some (.string yg) ∧
      w.cell? ⟨g, k * 9 + 8, none⟩ = some (.slice ykA ykn ykc) := by
  obtain ⟨b, o, yk, yn, ybA, ybn, ybc, ybs, yaA, yan, yac, yal, yt, yg, ykA, ykn, ykc, yks, hA, hx, y0, y1, y2, y3, y4, y5, y6, y7, y8, _⟩ := cells9 h hk
  injection hA with hA
  injection hA with hA1 hA2
  subst hA1 hA2
  rw [Nat.zero_add] at y0 y1 y2 y3 y4 y5 y6 y7 y8
  exact ⟨yk, yn, ybA, ybn, ybc, ybs, yaA, yan, yac, yal, yt, yg, ykA, ykn, ykc, yks, hx, y0, y1, y2, y3, y4, y5, y6, y7, y8⟩
@[reducible] def set9 (w : World) (g q : Nat) (v0 v1 v2 v3 v4 v5 v6 v7 v8 : Value) : World :=
  ((((((((w.setCell ⟨g, q * 9, none⟩ v0).setCell ⟨g, q * 9 + 1, none⟩ v1).setCell ⟨g, q * 9 + 2, none⟩ v2).setCell ⟨g, q * 9 + 3, none⟩ v3).setCell ⟨g, q * 9 + 4, none⟩ v4).setCell ⟨g, q * 9 + 5, none⟩ v5).setCell ⟨g, q * 9 + 6, none⟩ v6).setCell ⟨g, q * 9 + 7, none⟩ v7).setCell ⟨g, q * 9 + 8, none⟩ v8
theorem kept_set9 {W w : World} {g q : Nat} (hk : Kept W w) (hb : W.heap.size ≤ g) (v0 v1 v2 v3 v4 v5 v6 v7 v8 : Value) : Kept W (set9 w g q v0 v1 v2 v3 v4 v5 v6 v7 v8) := by
  have k0 := hk.setCell (p := ⟨g, q * 9, none⟩) hb v0
  have k1 := k0.setCell (p := ⟨g, q * 9 + 1, none⟩) hb v1
  have k2 := k1.setCell (p := ⟨g, q * 9 + 2, none⟩) hb v2
  have k3 := k2.setCell (p := ⟨g, q * 9 + 3, none⟩) hb v3
  have k4 := k3.setCell (p := ⟨g, q * 9 + 4, none⟩) hb v4
  have k5 := k4.setCell (p := ⟨g, q * 9 + 5, none⟩) hb v5
  have k6 := k5.setCell (p := ⟨g, q * 9 + 6, none⟩) hb v6
  have k7 := k6.setCell (p := ⟨g, q * 9 + 7, none⟩) hb v7
  exact k7.setCell (p := ⟨g, q * 9 + 8, none⟩) hb v8
/-- The last node of a row of the call's own, written anew. -/
theorem own_set9 {w : World} {base : Nat} {e : TypeId} {g q c : Nat} {O : List Nd} (h : w.ownsRow base e 9 (.slice (some ⟨g, 0, none⟩) (q + 1) c) (q + 1) (O.flatMap Nd.cells)) (hO : O.length = q + 1) (v0 v1 v2 v3 v4 v5 v6 v7 v8 : Value) (y : Nd)
    (hy : y.cells = [v0, v1, v2, v3, v4, v5, v6, v7, v8]) :
    (set9 w g q v0 v1 v2 v3 v4 v5 v6 v7 v8).ownsRow base e 9 (.slice (some ⟨g, 0, none⟩) (q + 1) c) (q + 1) ((O.dropLast ++ [y]).flatMap Nd.cells) := by
  have h0 := (h.stored (q * 9) v0).1
  have h1 := (h0.stored (q * 9 + 1) v1).1
  have h2 := (h1.stored (q * 9 + 2) v2).1
  have h3 := (h2.stored (q * 9 + 3) v3).1
  have h4 := (h3.stored (q * 9 + 4) v4).1
  have h5 := (h4.stored (q * 9 + 5) v5).1
  have h6 := (h5.stored (q * 9 + 6) v6).1
  have h7 := (h6.stored (q * 9 + 7) v7).1
  have h8 := (h7.stored (q * 9 + 8) v8).1
  clear h0 h1 h2 h3 h4 h5 h6 h7
  have hne : O ≠ [] := by
    intro h0
    rw [h0] at hO
    simp at hO
  have e1 : O.flatMap Nd.cells = O.dropLast.flatMap Nd.cells ++ (O.getLast hne).cells := by
    conv => lhs; rw [← List.dropLast_concat_getLast hne]
    simp
  have e2 : (O.dropLast.flatMap Nd.cells).length = q * 9 := by
    rw [flat_len Nd.cells_len, List.length_dropLast, hO]
    rfl
  obtain ⟨a0, a1, a2, a3, a4, a5, a6, a7, a8, ha⟩ : ∃ a0 a1 a2 a3 a4 a5 a6 a7 a8, (O.getLast hne).cells = [a0, a1, a2, a3, a4, a5, a6, a7, a8] := by
    generalize O.getLast hne = z
    cases z
    exact ⟨_, _, _, _, _, _, _, _, _, rfl⟩
  have e3 : (O.dropLast ++ [y]).flatMap Nd.cells = O.dropLast.flatMap Nd.cells ++ [v0, v1, v2, v3, v4, v5, v6, v7, v8] := by
    rw [List.flatMap_append]
    simp [hy]
  rw [e1, ha] at h8
  generalize O.dropLast.flatMap Nd.cells = X at h8 e2 e3
  rw [e3]
  have e4 : ∀ (l : List Value) (j : Nat) (v : Value), (X ++ l).set (q * 9 + j) v = X ++ l.set j v := fun l j v => by
    rw [List.set_append_right _ _ (by omega), e2, Nat.add_sub_cancel_left]
  have e5 : ∀ (l : List Value) (v : Value), (X ++ l).set (q * 9) v = X ++ l.set 0 v := fun l v => e4 l 0 v
  rw [e5, e4, e4, e4, e4, e4, e4, e4, e4] at h8
  exact h8
theorem last_get {O : List Nd} {q : Nat} {z : Nd} (hz : O[q]? = some z) (hO : O.length = q + 1) : (O.map Nd.tr).getLast? = some z.tr := by
  rw [List.getLast?_eq_getElem?, List.length_map, hO, Nat.add_sub_cancel]
  exact map_get hz
theorem step_skip {out : List Tr} {n : Tr} (hn : n.kind = 3) (he : eqS n.txt ⟨#[]⟩ = true) : mergeStep out n = out := by
  unfold mergeStep
  rw [if_pos hn, if_pos he]
theorem step_join {out : List Tr} {n m : Tr} (hn : n.kind = 3) (he : eqS n.txt ⟨#[]⟩ = false) (hm : out.getLast? = some m) (hk : m.kind = 3) : mergeStep out n = out.dropLast ++ [Tr.text (m.txt ++ n.txt)] := by
  unfold mergeStep
  rw [if_pos hn, if_neg (by simp [he]), hm]
  exact if_pos hk
theorem step_put {out : List Tr} {n : Tr} (h : n.kind ≠ 3 ∨ (eqS n.txt ⟨#[]⟩ = false ∧ ∀ m, out.getLast? = some m → m.kind ≠ 3)) : mergeStep out n = out ++ [n] := by
  unfold mergeStep
  split
  · rename_i hk
    rcases h with h | ⟨h1, h2⟩
    · exact absurd hk h
    · rw [if_neg (by simp [h1])]
      cases hm : out.getLast? with
      | none => rfl
      | some m => exact if_neg (h2 m hm)
  · rfl
theorem sum_bd {L : List Nd} {k : Nat} {y : Nd} {T : List Tr} (hy : L[k]? = some y) (hT : T = mergedT ((L.map Nd.tr).take k)) {b : Nat} (hs : sumS (L.map Nd.tr) ≤ b) : sumS T + y.txt.size ≤ b := by
  have e1 := merged_sum ((L.map Nd.tr).take k)
  have e2 := sumS_take (L.map Nd.tr) (k + 1)
  rw [List.take_add_one, map_get (f := Nd.tr) hy, Option.toList_some, sumS_app] at e2
  have e3 : sumS [y.tr] = y.txt.size := by simp [sumS, Nd.txt_tr]
  rw [hT]
  omega
/-- One of those that came in, or a text. -/
def Org (L : List Nd) (x : Nd) : Prop := x ∈ L ∨ ∃ t, x = Nd.text t
theorem org_ok {w : World} {L : List Nd} {x : Nd} (h : ∀ x ∈ L, x.ok w) (hx : Org L x) : x.ok w := by
  rcases hx with hx | ⟨t, rfl⟩
  · exact h x hx
  · exact Nd.text_ok w t
/-- What Merged answers. -/
def MergedOf (L : List Nd) (w : World) (e : Ending) (w' : World) : Prop :=
  ∃ VA m VC O, e = .returned (.slice VA m VC) ∧ Nds w' VA m VC O ∧ O.map Nd.tr = mergedT (L.map Nd.tr) ∧ Kept w w' ∧ (∀ x ∈ O, Org L x) ∧ (∀ b o, 0 < m → VA = some ⟨b, o, none⟩ → w.heap.size ≤ b)
set_option maxHeartbeats 8000000 in
theorem merged_any (A : Option Addr) (n c : Nat) (L : List Nd) (w : World) (hN : Nds w A n c L) (hn : n ≤ 1000) (hs : sumS (L.map Nd.tr) ≤ 1152921504606846976) :
    Calls Try.prog 8 #[.slice A n c] w fun e w' => MergedOf L w e w' := by
  obtain ⟨h, hok⟩ := hN
  have hL := h.llen Nd.cells_len (by omega)
  have HL := Lib.hid hL
  have HOK := Lib.hid hok
  have hcap := h.cap
  have hmax := h.max
  clear hL hok
  go_enter Try.func8, Try.ntmps8
  go_wp2_with fail
  go_loopw [3, 9] (fun v i wr => ∃ (k m : Nat) (O : List Nd), k ≤ n ∧ i = .int .i64 k ∧ m ≤ k ∧ wr.ownsRow w.heap.size 36 9 v m (O.flatMap Nd.cells) ∧ Hid (∀ x ∈ O, Org L x) ∧ Hid (O.map Nd.tr = mergedT ((L.map Nd.tr).take k)) ∧ Kept w wr) (fun _ i _ => n - (intOf i).toNat)
  case atStart => exact ⟨0, 0, [], Nat.zero_le _, rfl, Nat.le_refl _, ⟨rfl, .inl ⟨rfl, rfl⟩⟩, by unfold Hid; simp, rfl, Kept.refl _⟩
  case round =>
    obtain ⟨k, m, O, hk, rfl, hm, hown, HO, HI, hkept⟩ := hrel
    obtain ⟨VA, VC, rfl, hV⟩ := Sl.of_own hown
    by_cases hlt : k < n
    · obtain ⟨b, o, yk, yn, ybA, ybn, ybc, ybs, yaA, yan, yac, yal, yt, yg, ykA, ykn, ykc, yks, rfl, hy, y0, y1, y2, y3, y4, y5, y6, y7, y8, hb⟩ := cells9 (h.kept hkept) hlt
      have hyo : Org L _ := .inl (List.mem_of_getElem? hy)
      have hst := merged_take (map_get (f := Nd.tr) hy)
      rw [← HI.out, Nd.tr_mk] at hst
      have k2 := (Kept.refl wr).alloc (.cells (ndc yk yn ybA ybn ybc yaA yan yac yt yg ykA ykn ykc) 36)
      have bx := Blk.new wr (ndc yk yn ybA ybn ybc yaA yan yac yt yg ykA ykn ykc) 36
      by_cases h3 : yk = 3
      · subst h3
        cases ht : eqS yt ⟨#[]⟩
        · have ht' : (yt.toList == []) = false := (eqE2 yt).symm.trans ht
          have ht2 : yt.toList.isEmpty = false := (eqE yt).symm.trans ht
          have HT := Lib.hid ht
          clear ht
          by_cases hm0 : m = 0
          · subst hm0
            have hO0 : O = [] := List.eq_nil_of_length_eq_zero (hV.llen Nd.cells_len (by omega))
            have HST := Lib.hid (step_put (out := O.map Nd.tr) (n := Tr.mk 3 yn ybs yal yt yg (List.map Nd.tr yks)) (.inr ⟨HT.out, fun m hm' => by rw [hO0] at hm'; cases hm'⟩))
            clear hO0
            go_wp2_with (at_builtin; refine wpList_push w (by rfl) _ _ (by rfl) appT_nd (by rfl) (hown.alloc _) (hkept.alloc _) (by rfl) ?_ ?_; (exact ⟨by simp, rfl, rfl, by omega⟩); intro v5 w5 hown5 hk5 _ _)
            go_roundw
            case rel =>
              refine ⟨k + 1, 0 + 1, O ++ [Nd.mk 3 yn ybA ybn ybc ybs yaA yan yac yal yt yg ykA ykn ykc yks], hlt, by go_num, ?_, ?_, ?_, ?_, hk5⟩
              rotate_left
              · rw [List.flatMap_append]
                exact hown5
              · intro x hx
                rcases List.mem_append.1 hx with hx | hx
                · exact HO.out x hx
                · rw [List.mem_singleton.1 hx]
                  exact hyo
              · unfold Hid
                rw [hst, HST.out, List.map_append, List.map_singleton, Nd.tr_mk]
              · omega
            case measure =>
              simp [intOf]
              omega
          · obtain ⟨q, rfl⟩ : ∃ q, m = q + 1 := ⟨m - 1, by omega⟩
            obtain ⟨g, rfl, hgb, hgs⟩ := own_form hown (by omega)
            have hOL : O.length = q + 1 := hV.llen Nd.cells_len (by omega)
            have hV2 := hV.kept k2
            have own2 := own_kept hown k2
            obtain ⟨zk, zn, zbA, zbn, zbc, zbs, zaA, zan, zac, zal, zt, zg, zkA, zkn, zkc, zks, hz, z0, z1, z2, z3, z4, z5, z6, z7, z8⟩ := own9 hV2 (k := q) (by omega)
            have hfz := own2.frozenAt
            have ht6 := bx.cell 6
            have hgs2 : g < (wr.alloc (.cells (ndc 3 yn ybA ybn ybc yaA yan yac yt yg ykA ykn ykc) 36)).heap.size := Nat.lt_of_lt_of_le hgs k2.size
            have hK := hkept.trans k2
            by_cases hz3 : zk = 3
            · subst hz3
              go_upto_region 5 with fail
              generalize wr.alloc (.cells (ndc 3 yn ybA ybn ybc yaA yan yac yt yg ykA ykn ykc) 36) = w3 at bx own2 hV2 z0 z1 z2 z3 z4 z5 z6 z7 z8 hfz hgs2 hK ht6 ⊢
              obtain ⟨g3, hg3⟩ : ∃ g3, wr.heap.size = g3 := ⟨_, rfl⟩
              rw [hg3] at bx ht6 ⊢
              have bf := bx.cell
              clear hg3 k2 hV hown y0 y1 y2 y3 y4 y5 y6 y7 y8
              have hsz : ¬ (9223372036854775807 < zt.size + yt.size) := by
                have e1 := sumS_mem (l := O.map Nd.tr) (x := Nd.tr _) (List.mem_map.2 ⟨_, List.mem_of_getElem? hz, rfl⟩)
                have e2 := sum_bd hy HI.out hs
                rw [Nd.txt_tr] at e1
                have e3 : zt.size ≤ sumS (O.map Nd.tr) := e1
                have e4 : sumS (O.map Nd.tr) + yt.size ≤ 1152921504606846976 := e2
                omega
              have hst2 := step_join (n := Tr.mk 3 yn ybs yal yt yg (List.map Nd.tr yks)) rfl HT.out (last_get hz hOL) (by rw [Nd.kind_tr]; rfl)
              rw [Nd.txt_tr] at hst2
              have HST := Lib.hid hst2
              clear hst2
              go_upto_region 9 with fail
              have own4 := own_set9 own2 hOL (.int .i64 3) (.string ⟨#[]⟩) (.string ⟨#[]⟩) (.string ⟨#[]⟩) (.slice none 0 0) (.slice none 0 0) (.string (zt ++ yt)) (.string ⟨#[]⟩) (.slice none 0 0) (Nd.text (zt ++ yt)) rfl
              have k4 := kept_set9 (q := q) hK hgb (.int .i64 3) (.string ⟨#[]⟩) (.string ⟨#[]⟩) (.string ⟨#[]⟩) (.slice none 0 0) (.slice none 0 0) (.string (zt ++ yt)) (.string ⟨#[]⟩) (.slice none 0 0)
              have own5 := own4.drew
              have k5 := k4.drew
              go_region
              generalize (set9 w3 g q (.int .i64 3) (.string ⟨#[]⟩) (.string ⟨#[]⟩) (.string ⟨#[]⟩) (.slice none 0 0) (.slice none 0 0) (.string (zt ++ yt)) (.string ⟨#[]⟩) (.slice none 0 0)).drew = w5 at own5 k5 ⊢
              clear own4 k4
              go_wp2_with fail
              go_roundw
              case rel =>
                refine ⟨k + 1, q + 1, _, hlt, by go_num, by omega, own5, ?_, ?_, k5⟩
                · intro x hx
                  rcases List.mem_append.1 hx with hx | hx
                  · exact HO.out x (List.dropLast_subset _ hx)
                  · rw [List.mem_singleton.1 hx]
                    exact .inr ⟨_, rfl⟩
                · unfold Hid
                  rw [hst, HST.out, List.map_append, List.map_dropLast, List.map_singleton, Nd.text_tr]
                  rfl
              case measure =>
                simp [intOf]
                omega
            · have HST := Lib.hid (step_put (out := O.map Nd.tr) (n := Tr.mk 3 yn ybs yal yt yg (List.map Nd.tr yks)) (.inr ⟨HT.out, fun m hm' => by
                rw [last_get hz hOL] at hm'
                injection hm' with hm'
                rw [← hm', Nd.kind_tr]
                exact hz3⟩))
              go_wp2_with (at_builtin; refine wpList_push w (by rfl) _ _ (by rfl) appT_nd (by rfl) (hown.alloc _) (hkept.alloc _) (by rfl) ?_ ?_; (exact ⟨by simp, rfl, rfl, by omega⟩); intro v5 w5 hown5 hk5 _ _)
              go_roundw
              case rel =>
                refine ⟨k + 1, q + 1 + 1, O ++ [Nd.mk 3 yn ybA ybn ybc ybs yaA yan yac yal yt yg ykA ykn ykc yks], hlt, by go_num, ?_, ?_, ?_, ?_, hk5⟩
                rotate_left
                · rw [List.flatMap_append]
                  exact hown5
                · intro x hx
                  rcases List.mem_append.1 hx with hx | hx
                  · exact HO.out x hx
                  · rw [List.mem_singleton.1 hx]
                    exact hyo
                · unfold Hid
                  rw [hst, HST.out, List.map_append, List.map_singleton, Nd.tr_mk]
                · omega
              case measure =>
                simp [intOf]
                omega
        · have ht' : (yt.toList == []) = true := (eqE2 yt).symm.trans ht
          have ht2 : yt.toList.isEmpty = true := (eqE yt).symm.trans ht
          have HT := Lib.hid ht
          clear ht
          go_wp2_with fail
          go_roundw
          case rel => exact ⟨k + 1, m, O, hlt, by go_num, by omega, hown.alloc _, HO, by unfold Hid; rw [hst]; simp [mergeStep, Tr.kind, Tr.txt, HT.out], hkept.trans k2⟩
          case measure =>
            simp [intOf]
            omega
      · have HST := Lib.hid (step_put (out := O.map Nd.tr) (n := Tr.mk yk yn ybs yal yt yg (List.map Nd.tr yks)) (.inl h3))
        go_wp2_with (at_builtin; refine wpList_push w (by rfl) _ _ (by rfl) appT_nd (by rfl) (hown.alloc _) (hkept.alloc _) (by rfl) ?_ ?_; (exact ⟨by simp, rfl, rfl, by omega⟩); intro v5 w5 hown5 hk5 _ _)
        go_roundw
        case rel =>
          refine ⟨k + 1, m + 1, O ++ [Nd.mk yk yn ybA ybn ybc ybs yaA yan yac yal yt yg ykA ykn ykc yks], hlt, by go_num, ?_, ?_, ?_, ?_, hk5⟩
          rotate_left
          · rw [List.flatMap_append]
            exact hown5
          · intro x hx
            rcases List.mem_append.1 hx with hx | hx
            · exact HO.out x hx
            · rw [List.mem_singleton.1 hx]
              exact hyo
          · unfold Hid
            rw [hst, HST.out, List.map_append, List.map_singleton, Nd.tr_mk]
          · omega
        case measure =>
          simp [intOf]
          omega
    · obtain rfl : k = n := by omega
      go_wp2_with fail
      go_ret
      refine ⟨_, _, _, O, rfl, ⟨hV, fun x hx => (org_ok HOK.out (HO.out x hx)).kept hkept⟩, ?_, hkept, HO.out, fun b' o' hn' e' => ?_⟩
      rotate_left
      · obtain ⟨g', hg', hg2, _⟩ := own_form hown hn'
        rw [hg'] at e'
        injection e' with e'
        injection e' with e' _
        omega
      rw [HI.out, List.take_of_length_le (by rw [List.length_map, HL.out]; exact Nat.le_refl _)]
end Go.Proofs.Ytnlncamiaddhfaa
