/- The law InfoMerged, walked. -/
import Derived.Test.YtnlncamiaddhfaaInfY
import Derived.Test.YtnlncamiaddhfaaInfV
import Derived.Test.YtnlncamiaddhfaaInfS
namespace Go.Proofs.Ytnlncamiaddhfaa
open Go.RowKit
attribute [local go_sem ↓] Go.wp_at_zero Go.wp_at_succ

theorem kids_of {x : Nd} {k n bA bn bc bs aA an ac al t g kA kn kc ks} (h : x = Nd.mk k n bA bn bc bs aA an ac al t g kA kn kc ks) : x.tr.kids = ks.map Nd.tr := by
  subst h
  rw [Nd.tr_mk]
  rfl
theorem small_kids {t : Tr} (h : Small t) : t.kids.length ≤ 100 ∧ ∀ x ∈ t.kids, Small x := by
  cases h with
  | mk h1 h2 h3 h4 => exact ⟨h3, h4⟩
theorem txts_kids {b : Nat} {t : Tr} (h : Txts b t) : ∀ x ∈ t.kids, Txts b x := by
  cases h with
  | mk h1 h2 => exact h2
theorem kids_sum {t : Tr} (h : Small t) (h2 : Txts 140737488355328 t) : sumS t.kids ≤ 1152921504606846976 := by
  have h3 := txts_sum (txts_kids h2)
  have h4 : t.kids.length * 140737488355328 ≤ 100 * 140737488355328 := Nat.mul_le_mul_right _ (small_kids h).1
  omega
set_option maxRecDepth 100000 in
set_option maxHeartbeats 8000000 in
theorem infoMerged_any (x : Nd) (w : World) (hok : x.ok w) (htx : Txts 140737488355328 x.tr) :
    Calls Try.prog 3 #[x.val] w fun e w' => e = .returned (.bool true) ∧ Kept w w' := by
  have HC := Lib.hid (fun w' (kk : Kept w w') => cut_any x 3 w' w.heap.size (by omega) (hok.kept kk) hok.lt kk.size)
  have hT := cut_txts 3 htx
  have hS := cut_small 3 x.tr
  have hN := cut_count 3 x.tr
  obtain ⟨X, hX⟩ : ∃ X, cutT 3 x.tr = X := ⟨_, rfl⟩
  rw [hX] at hT hS hN
  have HT := Lib.hid hT
  have HS := Lib.hid hS
  have HN := Lib.hid hN
  have HX := Lib.hid hX
  clear hok htx hT hS hN hX
  obtain ⟨k, n, bA, bn, bc, bs, aA, an, ac, al, t, g, kA, kn, kc, ks⟩ := x
  have HC2 : Hid (∀ w', Kept w w' → Calls Try.prog 7 #[.agg #[.int .i64 k, .string n.u, .string n.l, .string n.p, .slice bA bn bc, .slice aA an ac, .string t, .string g, .slice kA kn kc], .int .i64 3] w' fun e w'' =>
      ∃ zk zn zbA zbn zbc zbs zaA zan zac zal zt zg zkA zkn zkc zks, e = .returned (.agg #[.int .i64 zk, .string (Nm.u zn), .string (Nm.l zn), .string (Nm.p zn), .slice zbA zbn zbc, .slice zaA zan zac, .string zt, .string zg, .slice zkA zkn zkc]) ∧
        Hid ((Nd.mk zk zn zbA zbn zbc zbs zaA zan zac zal zt zg zkA zkn zkc zks).ok w'' ∧ (Nd.mk zk zn zbA zbn zbc zbs zaA zan zac zal zt zg zkA zkn zkc zks).tr = X ∧ (Nd.mk zk zn zbA zbn zbc zbs zaA zan zac zal zt zg zkA zkn zkc zks).out (fun b => b < w.heap.size ∨ w'.heap.size ≤ b)) ∧ Kept w' w'') := by
    intro w' kk
    refine (HC.out w' kk).mono ?_
    rintro e w2 ⟨⟨zk, zn, zbA, zbn, zbc, zbs, zaA, zan, zac, zal, zt, zg, zkA, zkn, zkc, zks⟩, rfl, h1, h2, h4, h3⟩
    exact ⟨zk, zn, zbA, zbn, zbc, zbs, zaA, zan, zac, zal, zt, zg, zkA, zkn, zkc, zks, rfl, ⟨h1, h2.trans HX.out, h4⟩, h3⟩
  clear HC
  show Calls Try.prog 3 #[.agg #[.int .i64 k, .string n.u, .string n.l, .string n.p, .slice bA bn bc, .slice aA an ac, .string t, .string g, .slice kA kn kc]] w _
  have k1 := (Kept.refl w).alloc (.cells (ndc k n bA bn bc aA an ac t g kA kn kc) 28)
  have b1 := Blk.new w (ndc k n bA bn bc aA an ac t g kA kn kc) 28
  go_enter Try.func3, Try.ntmps3
  go_wp2_with fail
  refine (HC2.out _ k1).mono ?_
  rintro e w2 ⟨zk, zn, zbA, zbn, zbc, zbs, zaA, zan, zac, zal, zt, zg, zkA, zkn, zkc, zks, rfl, hz, k2⟩
  have b2 := b1.kept k2
  have c0 : w2.cell? ⟨w.heap.size, 0, none⟩ = some (.int .i64 k) := b2.cell 0
  have c1 : w2.cell? ⟨w.heap.size, 1, none⟩ = some (.string n.u) := b2.cell 1
  have c2 : w2.cell? ⟨w.heap.size, 2, none⟩ = some (.string n.l) := b2.cell 2
  have c3 : w2.cell? ⟨w.heap.size, 3, none⟩ = some (.string n.p) := b2.cell 3
  have c4 : w2.cell? ⟨w.heap.size, 4, none⟩ = some (.slice bA bn bc) := b2.cell 4
  have c5 : w2.cell? ⟨w.heap.size, 5, none⟩ = some (.slice aA an ac) := b2.cell 5
  have c6 : w2.cell? ⟨w.heap.size, 6, none⟩ = some (.string t) := b2.cell 6
  have c7 : w2.cell? ⟨w.heap.size, 7, none⟩ = some (.string g) := b2.cell 7
  have c8 : w2.cell? ⟨w.heap.size, 8, none⟩ = some (.slice kA kn kc) := b2.cell 8
  have cf := b2.frozen
  have cl := b2.lt
  go_upto_region 2 with fail
  have b3 := blk_setB9 b2 (.int .i64 zk) (.string zn.u) (.string zn.l) (.string zn.p) (.slice zbA zbn zbc) (.slice zaA zan zac) (.string zt) (.string zg) (.slice zkA zkn zkc)
  have k3 := kept_setB9 (k1.trans k2) (Nat.le_refl _) (.int .i64 zk) (.string zn.u) (.string zn.l) (.string zn.p) (.slice zbA zbn zbc) (.slice zaA zan zac) (.string zt) (.string zg) (.slice zkA zkn zkc)
  have zok := hz.out.1.grown (grown_setB9 w2 w.heap.size (.int .i64 zk) (.string zn.u) (.string zn.l) (.string zn.p) (.slice zbA zbn zbc) (.slice zaA zan zac) (.string zt) (.string zg) (.slice zkA zkn zkc)) (hz.out.2.2.mono (fun b hb => by
    intro e
    injection e with e
    have hb' : b < w.heap.size ∨ w.heap.size + 1 ≤ b := by simpa using hb
    omega))
  change Code.wp _ _ _ _ (setB9 w2 w.heap.size (.int .i64 zk) (.string zn.u) (.string zn.l) (.string zn.p) (.slice zbA zbn zbc) (.slice zaA zan zac) (.string zt) (.string zg) (.slice zkA zkn zkc))
  generalize setB9 w2 w.heap.size (.int .i64 zk) (.string zn.u) (.string zn.l) (.string zn.p) (.slice zbA zbn zbc) (.slice zaA zan zac) (.string zt) (.string zg) (.slice zkA zkn zkc) = w3 at b3 k3 zok ⊢
  have hZX := hz.out.2.1
  obtain ⟨g1, hg1⟩ : ∃ g1, w.heap.size = g1 := ⟨_, rfl⟩
  rw [hg1] at b3 ⊢
  clear c0 c1 c2 c3 c4 c5 c6 c7 c8 cf cl b2 b1 k1 k2 hg1 HC2 HX hz
  have d0 : w3.cell? ⟨g1, 0, none⟩ = some (.int .i64 zk) := b3.cell 0
  have d1 : w3.cell? ⟨g1, 1, none⟩ = some (.string zn.u) := b3.cell 1
  have d2 : w3.cell? ⟨g1, 2, none⟩ = some (.string zn.l) := b3.cell 2
  have d3 : w3.cell? ⟨g1, 3, none⟩ = some (.string zn.p) := b3.cell 3
  have d4 : w3.cell? ⟨g1, 4, none⟩ = some (.slice zbA zbn zbc) := b3.cell 4
  have d5 : w3.cell? ⟨g1, 5, none⟩ = some (.slice zaA zan zac) := b3.cell 5
  have d6 : w3.cell? ⟨g1, 6, none⟩ = some (.string zt) := b3.cell 6
  have d7 : w3.cell? ⟨g1, 7, none⟩ = some (.string zg) := b3.cell 7
  have d8 : w3.cell? ⟨g1, 8, none⟩ = some (.slice zkA zkn zkc) := b3.cell 8
  have hZs : Small (Nd.mk zk zn zbA zbn zbc zbs zaA zan zac zal zt zg zkA zkn zkc zks).tr := by
    rw [hZX]
    exact HS.out
  have HO := Lib.hid (ours_any (Nd.mk zk zn zbA zbn zbc zbs zaA zan zac zal zt zg zkA zkn zkc zks) w3 zok hZs)
  have hZk := kids_of (x := Nd.mk zk zn zbA zbn zbc zbs zaA zan zac zal zt zg zkA zkn zkc zks) rfl
  rw [hZX] at hZk
  have HZK := Lib.hid hZk
  have HZX := Lib.hid hZX
  clear hZs hZk hZX
  go_wp2_with fail
  refine HO.out.mono ?_
  rintro e w4 ⟨⟨yk, yn, ybA, ybn, ybc, ybs, yaA, yan, yac, yal, yt, yg, ykA, ykn, ykc, yks⟩, rfl, yok, ytr, _, k4⟩
  have hyk := kids_of (x := Nd.mk yk yn ybA ybn ybc ybs yaA yan yac yal yt yg ykA ykn ykc yks) rfl
  rw [ytr, HZX.out] at hyk
  have HYK := Lib.hid hyk
  obtain ⟨_, _, hyS, hyN⟩ := yok.parts
  have hylen := hyS.llen Nd.cells_len (by omega)
  have hy100 : ykn ≤ 100 := by
    have h1 := (small_kids HS.out).1
    rw [hyk, List.length_map] at h1
    omega
  have hysum : sumS (yks.map Nd.tr) ≤ 1152921504606846976 := by
    rw [← hyk]
    exact kids_sum HS.out HT.out
  have HM1 := Lib.hid (merged_any ykA ykn ykc yks w4 ⟨hyS, hyN⟩ (by omega) hysum)
  clear hyk yok ytr hyS hyN hylen hysum HO
  rw [Nd.val_mk]
  have hfd : ∀ wv : World, (Instr.field 36 (.agg #[.int .i64 yk, .string yn.u, .string yn.l, .string yn.p, .slice ybA ybn ybc, .slice yaA yan yac, .string yt, .string yg, .slice ykA ykn ykc]) 6).run Try.prog wv = .ok (.slice ykA ykn ykc) wv := fun _ => by kernel_rfl
  go_wp2_with fail
  refine HM1.out.mono ?_
  rintro e w5 ⟨LA, lm, lc, L1, rfl, hL1, hL1t, k5, hOrg, _⟩
  have HORG := Lib.hid hOrg
  clear hOrg
  have hzok5 := (zok.kept k4).kept k5
  obtain ⟨_, _, hzS, hzN⟩ := hzok5.parts
  have hzlen := hzS.llen Nd.cells_len (by omega)
  have hz100 : zkn ≤ 100 := by
    have h1 := (small_kids HS.out).1
    rw [HZK.out, List.length_map] at h1
    omega
  have hzsum : sumS (zks.map Nd.tr) ≤ 1152921504606846976 := by
    rw [← HZK.out]
    exact kids_sum HS.out HT.out
  have HM2 := Lib.hid (rmerged_any zkA zkn zkc zks w5 ⟨hzS, hzN⟩ (by omega) hzsum)
  have b5 := (b3.kept k4).kept k5
  have d85 : w5.cell? ⟨g1, 8, none⟩ = some (.slice zkA zkn zkc) := b5.cell 8
  rw [← HYK.out] at hL1t
  have HL1T := Lib.hid hL1t
  clear hzok5 hzS hzN hzlen hzsum HM1 d0 d1 d2 d3 d4 d5 d6 d7 d8 hL1t
  go_wp2_with fail
  refine HM2.out.mono ?_
  rintro e w6 ⟨MA, mm, mc, L2, rfl, hL2, hL2t, k6, _, _⟩
  rw [← HZK.out] at hL2t
  have hLen1 := hL1.len
  have hLen2 := hL2.len
  have hmm : mm = lm := by
    have h1 := congrArg List.length hL2t
    have h2 := congrArg List.length HL1T.out
    rw [List.length_map] at h1 h2
    omega
  subst hmm
  have hl100 : mm ≤ 100 := by
    have h1 := merged_len X.kids
    have h2 := (small_kids HS.out).1
    rw [← hL2t, List.length_map] at h1
    omega
  have hs1 : sumS (L1.map Nd.tr) ≤ 1152921504606846976 := by
    have h1 := merged_sum X.kids
    have h2 := kids_sum HS.out HT.out
    rw [HL1T.out]
    omega
  have HM3 := Lib.hid (merged_any LA mm lc L1 w6 (hL1.kept k6) (by omega) hs1)
  have HL2T := Lib.hid hL2t
  have HLEN := Lib.hid (show _ ∧ _ from ⟨hLen1, hLen2⟩)
  clear hLen1 hLen2 hs1 hL2t HM2 d85
  go_wp2_with fail
  refine HM3.out.mono ?_
  rintro e w7 ⟨NA, m3, nc, L3, rfl, hL3, hL3t, k7, _, _⟩
  have hm3 : m3 = mm := by
    have h1 := hL3.len
    rw [HL1T.out, merged_merged, ← HL1T.out] at hL3t
    have h2 := congrArg List.length hL3t
    rw [List.length_map, List.length_map] at h2
    have := HLEN.out.1
    omega
  subst hm3
  clear hL3 hL3t HM3
  have hL17 := (hL1.kept k6).kept k7
  have hL27 := hL2.kept k7
  have b7 := (b5.kept k6).kept k7
  have K7 := (((k3.trans k4).trans k5).trans k6).trans k7
  have zok7 := (((zok.kept k4).kept k5).kept k6).kept k7
  have HZ7 := Lib.hid zok7
  have hLc1 := hL17.1.cap
  have hLm1 := hL17.1.max
  have hLc2 := hL27.1.cap
  have hLm2 := hL27.1.max
  clear k3 k4 k5 k6 k7 zok zok7 b3 b5 hL1 hL2
  go_wp2_with fail
  go_loopw [30] (fun i wr => ∃ j : Nat, j ≤ m3 ∧ i = .int .i64 j ∧ Kept w7 wr) (fun i _ => m3 - (intOf i).toNat)
  case atStart => exact ⟨0, Nat.zero_le _, rfl, Kept.refl _⟩
  case round =>
    obtain ⟨j, hj, rfl, hkept⟩ := hrel
    by_cases hlt : j < m3
    · have hLj := (hL17.kept hkept)
      have hMj := (hL27.kept hkept)
      obtain ⟨pb, po, vk, vn, vbA, vbn, vbc, vbs, vaA, van, vac, val, vt, vg, vkA, vkn, vkc, vks, rfl, ha, a0, a1, a2, a3, a4, a5, a6, a7, a8, hpb⟩ := cells9 hLj.1 hlt
      obtain ⟨qb, qo, ck, cn, cbA, cbn, cbc, cbs, caA, can, cac, cal, ct, cg, ckA, ckn, ckc, cks, rfl, hc, c0, c1, c2, c3, c4, c5, c6, c7, c8, hqb⟩ := cells9 hMj.1 hlt
      have haok := hLj.2 _ (List.mem_of_getElem? ha)
      have hcok := hMj.2 _ (List.mem_of_getElem? hc)
      have hat := map_get (f := Nd.tr) ha
      have hct := map_get (f := Nd.tr) hc
      rw [HL1T.out] at hat
      rw [HL2T.out, hat] at hct
      injection hct with hct
      have hsm : Small (Nd.mk vk vn vbA vbn vbc vbs vaA van vac val vt vg vkA vkn vkc vks).tr := by
        rcases HORG.out _ (List.mem_of_getElem? ha) with h1 | ⟨t', h1⟩
        · have h2 := (small_kids HS.out).2
          rw [HYK.out] at h2
          exact h2 _ (List.mem_map.2 ⟨_, h1, rfl⟩)
        · rw [h1, Nd.text_tr]
          exact .mk (by simp) (by simp) (by simp) (by simp)
      have HPL : Hid (∀ w', Kept wr w' → Calls Try.prog 12 #[.agg #[.int .i64 vk, .string vn.u, .string vn.l, .string vn.p, .slice vbA vbn vbc, .slice vaA van vac, .string vt, .string vg, .slice vkA vkn vkc]] w' fun e w'' =>
          ∃ uk un ubA ubn ubc ubs uaA uan uac ual ut ug ukA ukn ukc uks, e = .returned (.agg #[.int .i64 uk, .string (Nm.u un), .string (Nm.l un), .string (Nm.p un), .slice ubA ubn ubc, .slice uaA uan uac, .string ut, .string ug, .slice ukA ukn ukc]) ∧ Hid ((Nd.mk uk un ubA ubn ubc ubs uaA uan uac ual ut ug ukA ukn ukc uks).ok w'' ∧ (Nd.mk uk un ubA ubn ubc ubs uaA uan uac ual ut ug ukA ukn ukc uks).tr = (Nd.mk ck cn cbA cbn cbc cbs caA can cac cal ct cg ckA ckn ckc cks).tr) ∧ Kept wr w'') := by
        intro w' kk
        refine (plain_any (Nd.mk vk vn vbA vbn vbc vbs vaA van vac val vt vg vkA vkn vkc vks) w' (haok.kept kk) hsm).mono ?_
        rintro e w2 ⟨⟨uk, un, ubA, ubn, ubc, ubs, uaA, uan, uac, ual, ut, ug, ukA, ukn, ukc, uks⟩, rfl, h1, h2, _, h3⟩
        exact ⟨uk, un, ubA, ubn, ubc, ubs, uaA, uan, uac, ual, ut, ug, ukA, ukn, ukc, uks, rfl, ⟨h1, h2.trans hct⟩, kk.trans h3⟩
      have HSM : Hid (∀ uk un ubA ubn ubc ubs uaA uan uac ual ut ug ukA ukn ukc uks (w' : World), Hid ((Nd.mk uk un ubA ubn ubc ubs uaA uan uac ual ut ug ukA ukn ukc uks).ok w' ∧ (Nd.mk uk un ubA ubn ubc ubs uaA uan uac ual ut ug ukA ukn ukc uks).tr = (Nd.mk ck cn cbA cbn cbc cbs caA can cac cal ct cg ckA ckn ckc cks).tr) → Kept wr w' → Calls Try.prog 11 #[.agg #[.int .i64 uk, .string un.u, .string un.l, .string un.p, .slice ubA ubn ubc, .slice uaA uan uac, .string ut, .string ug, .slice ukA ukn ukc], .agg #[.int .i64 ck, .string cn.u, .string cn.l, .string cn.p, .slice cbA cbn cbc, .slice caA can cac, .string ct, .string cg, .slice ckA ckn ckc]] w' fun e w'' => e = .returned (.bool true) ∧ Kept w' w'') := by
        intro uk un ubA ubn ubc ubs uaA uan uac ual ut ug ukA ukn ukc uks w' hu kk
        have h1 := rsame_any (Nd.mk uk un ubA ubn ubc ubs uaA uan uac ual ut ug ukA ukn ukc uks) (Nd.mk ck cn cbA cbn cbc cbs caA can cac cal ct cg ckA ckn ckc cks) w' hu.out.1 (hcok.kept kk)
        rw [hu.out.2, sameT_self] at h1
        exact h1
      have l1 : (j : Int) < m3 := by omega
      have HAT := Lib.hid hat
      clear hat hct hsm haok hcok ha hc
      have KA : Hid (∀ w', Kept wr w' → w'.cell? ⟨pb, po + j * 9, none⟩ = some (.int .i64 vk) ∧ w'.cell? ⟨pb, po + j * 9 + 1, none⟩ = some (.string vn.u) ∧ w'.cell? ⟨pb, po + j * 9 + 2, none⟩ = some (.string vn.l) ∧ w'.cell? ⟨pb, po + j * 9 + 3, none⟩ = some (.string vn.p) ∧ w'.cell? ⟨pb, po + j * 9 + 4, none⟩ = some (.slice vbA vbn vbc) ∧ w'.cell? ⟨pb, po + j * 9 + 5, none⟩ = some (.slice vaA van vac) ∧ w'.cell? ⟨pb, po + j * 9 + 6, none⟩ = some (.string vt) ∧ w'.cell? ⟨pb, po + j * 9 + 7, none⟩ = some (.string vg) ∧ w'.cell? ⟨pb, po + j * 9 + 8, none⟩ = some (.slice vkA vkn vkc) ∧ w'.cell? ⟨qb, qo + j * 9, none⟩ = some (.int .i64 ck) ∧ w'.cell? ⟨qb, qo + j * 9 + 1, none⟩ = some (.string cn.u) ∧ w'.cell? ⟨qb, qo + j * 9 + 2, none⟩ = some (.string cn.l) ∧ w'.cell? ⟨qb, qo + j * 9 + 3, none⟩ = some (.string cn.p) ∧ w'.cell? ⟨qb, qo + j * 9 + 4, none⟩ = some (.slice cbA cbn cbc) ∧ w'.cell? ⟨qb, qo + j * 9 + 5, none⟩ = some (.slice caA can cac) ∧ w'.cell? ⟨qb, qo + j * 9 + 6, none⟩ = some (.string ct) ∧ w'.cell? ⟨qb, qo + j * 9 + 7, none⟩ = some (.string cg) ∧ w'.cell? ⟨qb, qo + j * 9 + 8, none⟩ = some (.slice ckA ckn ckc)) :=
        fun w' kk => ⟨kk.cell a0, kk.cell a1, kk.cell a2, kk.cell a3, kk.cell a4, kk.cell a5, kk.cell a6, kk.cell a7, kk.cell a8, kk.cell c0, kk.cell c1, kk.cell c2, kk.cell c3, kk.cell c4, kk.cell c5, kk.cell c6, kk.cell c7, kk.cell c8⟩
      clear a0 a1 a2 a3 a4 a5 a6 a7 a8 c0 c1 c2 c3 c4 c5 c6 c7 c8
      rcases Nat.eq_zero_or_pos j with h0 | h0
      · have i0 : ¬ (0 : Int) < j := by omega
        have i0' : ¬ 0 < j := by omega
        clear h0
        have MK : Hid (∀ w', Kept wr w' → w'.cell? ⟨pb, po + j * 9, none⟩ = some (.int .i64 vk) ∧ w'.cell? ⟨pb, po + j * 9 + 1, none⟩ = some (.string vn.u) ∧ w'.cell? ⟨pb, po + j * 9 + 2, none⟩ = some (.string vn.l) ∧ w'.cell? ⟨pb, po + j * 9 + 3, none⟩ = some (.string vn.p) ∧ w'.cell? ⟨pb, po + j * 9 + 4, none⟩ = some (.slice vbA vbn vbc) ∧ w'.cell? ⟨pb, po + j * 9 + 5, none⟩ = some (.slice vaA van vac) ∧ w'.cell? ⟨pb, po + j * 9 + 6, none⟩ = some (.string vt) ∧ w'.cell? ⟨pb, po + j * 9 + 7, none⟩ = some (.string vg) ∧ w'.cell? ⟨pb, po + j * 9 + 8, none⟩ = some (.slice vkA vkn vkc) ∧ w'.cell? ⟨qb, qo + j * 9, none⟩ = some (.int .i64 ck) ∧ w'.cell? ⟨qb, qo + j * 9 + 1, none⟩ = some (.string cn.u) ∧ w'.cell? ⟨qb, qo + j * 9 + 2, none⟩ = some (.string cn.l) ∧ w'.cell? ⟨qb, qo + j * 9 + 3, none⟩ = some (.string cn.p) ∧ w'.cell? ⟨qb, qo + j * 9 + 4, none⟩ = some (.slice cbA cbn cbc) ∧ w'.cell? ⟨qb, qo + j * 9 + 5, none⟩ = some (.slice caA can cac) ∧ w'.cell? ⟨qb, qo + j * 9 + 6, none⟩ = some (.string ct) ∧ w'.cell? ⟨qb, qo + j * 9 + 7, none⟩ = some (.string cg) ∧ w'.cell? ⟨qb, qo + j * 9 + 8, none⟩ = some (.slice ckA ckn ckc)) := KA
        clear KA
        go_upto_region 9 with fail
        refine wp_region_held_drew (S := fun w' => w'.cell? ⟨pb, po + j * 9, none⟩ = some (.int .i64 vk) ∧ w'.cell? ⟨pb, po + j * 9 + 1, none⟩ = some (.string vn.u) ∧ w'.cell? ⟨pb, po + j * 9 + 2, none⟩ = some (.string vn.l) ∧ w'.cell? ⟨pb, po + j * 9 + 3, none⟩ = some (.string vn.p) ∧ w'.cell? ⟨pb, po + j * 9 + 4, none⟩ = some (.slice vbA vbn vbc) ∧ w'.cell? ⟨pb, po + j * 9 + 5, none⟩ = some (.slice vaA van vac) ∧ w'.cell? ⟨pb, po + j * 9 + 6, none⟩ = some (.string vt) ∧ w'.cell? ⟨pb, po + j * 9 + 7, none⟩ = some (.string vg) ∧ w'.cell? ⟨pb, po + j * 9 + 8, none⟩ = some (.slice vkA vkn vkc) ∧ w'.cell? ⟨qb, qo + j * 9, none⟩ = some (.int .i64 ck) ∧ w'.cell? ⟨qb, qo + j * 9 + 1, none⟩ = some (.string cn.u) ∧ w'.cell? ⟨qb, qo + j * 9 + 2, none⟩ = some (.string cn.l) ∧ w'.cell? ⟨qb, qo + j * 9 + 3, none⟩ = some (.string cn.p) ∧ w'.cell? ⟨qb, qo + j * 9 + 4, none⟩ = some (.slice cbA cbn cbc) ∧ w'.cell? ⟨qb, qo + j * 9 + 5, none⟩ = some (.slice caA can cac) ∧ w'.cell? ⟨qb, qo + j * 9 + 6, none⟩ = some (.string ct) ∧ w'.cell? ⟨qb, qo + j * 9 + 7, none⟩ = some (.string cg) ∧ w'.cell? ⟨qb, qo + j * 9 + 8, none⟩ = some (.slice ckA ckn ckc)) (by kernel_rfl) (MK.out _ (Kept.refl wr).drew) (fun hHeld => ?_)
        skip
        refine wpAnyH_take (i := 0) (oi := { dst := some 33, op := Op.move (Operand.tmp 3), type := 30, pos := "law.go:98", after := #[], guard := none }) (v := ?vvza1) rfl (by kernel_rfl) (by kernel_rfl) (by kernel_rfl) (fun _ _ _ h => h) (Or.inl ⟨by rfl, ?hyza1⟩) (by assumption) ?restza1
        case hyza1 => (intro wS hSw; (try dsimp only at hSw); (repeat (obtain ⟨_, hSw⟩ := hSw)); go_simp; try (with_reducible rfl))
        try simp only [Act.put, List.setIfInBounds_toArray, List.set_cons_zero, List.set_cons_succ]
        refine wpAnyH_take (i := 1) (oi := { dst := some 34, op := Op.move (Operand.tmp 5), type := 3, pos := "law.go:98", after := #[], guard := none }) (v := ?vvza2) rfl (by kernel_rfl) (by kernel_rfl) (by kernel_rfl) (fun _ _ _ h => h) (Or.inl ⟨by rfl, ?hyza2⟩) (by assumption) ?restza2
        case hyza2 => (intro wS hSw; (try dsimp only at hSw); (repeat (obtain ⟨_, hSw⟩ := hSw)); go_simp; try (with_reducible rfl))
        try simp only [Act.put, List.setIfInBounds_toArray, List.set_cons_zero, List.set_cons_succ]
        refine wpAnyH_take (i := 2) (oi := { dst := some 35, op := Op.indexAddr 30 (Operand.tmp 33) (Operand.tmp 34), type := 0, pos := "law.go:98", after := #[{ on := 0, ground := Ground.data }, { on := 1, ground := Ground.data }], guard := none }) (v := ?vvza3) rfl (by kernel_rfl) (by kernel_rfl) (by kernel_rfl) (fun _ _ _ h => h) (Or.inl ⟨by rfl, ?hyza3⟩) (by assumption) ?restza3
        case hyza3 => (intro wS hSw; (try dsimp only at hSw); (repeat (obtain ⟨_, hSw⟩ := hSw)); go_simp; try (with_reducible rfl))
        try simp only [Act.put, List.setIfInBounds_toArray, List.set_cons_zero, List.set_cons_succ]
        refine wpAnyH_take (i := 3) (oi := { dst := some 36, op := Op.load 36 (Operand.tmp 35), type := 36, pos := "law.go:98", after := #[{ on := 2, ground := Ground.data }], guard := none }) (v := ?vvza4) rfl (by kernel_rfl) (by kernel_rfl) (by kernel_rfl) (fun _ _ _ h => h) (Or.inl ⟨by rfl, ?hyza4⟩) (by assumption) ?restza4
        case hyza4 => (intro wS hSw; (try dsimp only at hSw); (repeat (obtain ⟨_, hSw⟩ := hSw)); go_simp; try (with_reducible rfl))
        try simp only [Act.put, List.setIfInBounds_toArray, List.set_cons_zero, List.set_cons_succ]
        refine wpAnyH_take (i := 5) (oi := { dst := some 38, op := Op.move (Operand.tmp 4), type := 26, pos := "law.go:98", after := #[], guard := none }) (v := ?vvza5) rfl (by kernel_rfl) (by kernel_rfl) (by kernel_rfl) (fun _ _ _ h => h) (Or.inl ⟨by rfl, ?hyza5⟩) (by assumption) ?restza5
        case hyza5 => (intro wS hSw; (try dsimp only at hSw); (repeat (obtain ⟨_, hSw⟩ := hSw)); go_simp; try (with_reducible rfl))
        try simp only [Act.put, List.setIfInBounds_toArray, List.set_cons_zero, List.set_cons_succ]
        refine wpAnyH_take (i := 6) (oi := { dst := some 39, op := Op.move (Operand.tmp 5), type := 3, pos := "law.go:98", after := #[], guard := none }) (v := ?vvza6) rfl (by kernel_rfl) (by kernel_rfl) (by kernel_rfl) (fun _ _ _ h => h) (Or.inl ⟨by rfl, ?hyza6⟩) (by assumption) ?restza6
        case hyza6 => (intro wS hSw; (try dsimp only at hSw); (repeat (obtain ⟨_, hSw⟩ := hSw)); go_simp; try (with_reducible rfl))
        try simp only [Act.put, List.setIfInBounds_toArray, List.set_cons_zero, List.set_cons_succ]
        refine wpAnyH_take (i := 7) (oi := { dst := some 40, op := Op.indexAddr 26 (Operand.tmp 38) (Operand.tmp 39), type := 0, pos := "law.go:98", after := #[{ on := 5, ground := Ground.data }, { on := 6, ground := Ground.data }], guard := none }) (v := ?vvza7) rfl (by kernel_rfl) (by kernel_rfl) (by kernel_rfl) (fun _ _ _ h => h) (Or.inl ⟨by rfl, ?hyza7⟩) (by assumption) ?restza7
        case hyza7 => (intro wS hSw; (try dsimp only at hSw); (repeat (obtain ⟨_, hSw⟩ := hSw)); go_simp; try (with_reducible rfl))
        try simp only [Act.put, List.setIfInBounds_toArray, List.set_cons_zero, List.set_cons_succ]
        refine wpAnyH_take (i := 8) (oi := { dst := some 41, op := Op.load 28 (Operand.tmp 40), type := 28, pos := "law.go:98", after := #[{ on := 7, ground := Ground.data }], guard := none }) (v := ?vvza8) rfl (by kernel_rfl) (by kernel_rfl) (by kernel_rfl) (fun _ _ _ h => h) (Or.inl ⟨by rfl, ?hyza8⟩) (by assumption) ?restza8
        case hyza8 => (intro wS hSw; (try dsimp only at hSw); (repeat (obtain ⟨_, hSw⟩ := hSw)); go_simp; try (with_reducible rfl))
        try simp only [Act.put, List.setIfInBounds_toArray, List.set_cons_zero, List.set_cons_succ]
        refine wpAnyH_ready (rs := [4]) (by kernel_rfl) (by simp) ?_
        refine AllReadyH.cons (o := { dst := some 37, op := Op.call { callee := Callee.value (Operand.func 12), args := #[Operand.tmp 36], argTypes := #[36] }, type := 28, pos := "law.go:98", after := #[{ on := 3, ground := Ground.data }], guard := none }) rfl (fun K hK => ?stepza9) ?moreza9
        case stepza9 =>
          go_simp
          go_at_call 12
          refine (HPL.out _ (Kept.refl wr).drew).mono ?_
          rintro e wa ⟨uk, un, ubA, ubn, ubc, ubs, uaA, uan, uac, ual, ut, ug, ukA, ukn, ukc, uks, rfl, hu, kw1⟩
          go_wp2_with fail
          refine hK.out _ _ (by first | exact MK.out _ kw2 | exact MK.out _ kw1 | exact MK.out _ (Kept.refl wr).drew) (fun hHeld => ?_)
          clear hK K
          try simp only [Act.put, List.setIfInBounds_toArray, List.set_cons_zero, List.set_cons_succ]
          refine wpAnyH_ready (rs := [9]) (by kernel_rfl) (by simp) ?_
          refine AllReadyH.cons (o := { dst := some 42, op := Op.call { callee := Callee.value (Operand.func 11), args := #[Operand.tmp 37, Operand.tmp 41], argTypes := #[28, 28] }, type := 4, pos := "law.go:98", after := #[{ on := 4, ground := Ground.data }, { on := 8, ground := Ground.data }, { on := 4, ground := Ground.chain }], guard := none }) rfl (fun K hK => ?stepza10) ?moreza10
          case stepza10 =>
            go_simp
            go_at_call 11
            refine (HSM.out uk un ubA ubn ubc ubs uaA uan uac ual ut ug ukA ukn ukc uks _ hu kw1).mono ?_
            rintro e wb ⟨rfl, kb⟩
            have kw2 : Kept wr wb := kw1.trans kb
            go_wp2_with fail
            refine hK.out _ _ (by first | exact MK.out _ kw2 | exact MK.out _ kw1 | exact MK.out _ (Kept.refl wr).drew) (fun hHeld => ?_)
            clear hK K
            try simp only [Act.put, List.setIfInBounds_toArray, List.set_cons_zero, List.set_cons_succ]
            refine wpAnyH_take (i := 10) (oi := { dst := some 43, op := Op.unOp UnOp.not 4 (Operand.tmp 42), type := 4, pos := "law.go:98", after := #[{ on := 9, ground := Ground.data }], guard := none }) (v := ?vvza11) rfl (by kernel_rfl) (by kernel_rfl) (by kernel_rfl) (fun _ _ _ h => h) (Or.inl ⟨by rfl, ?hyza11⟩) (by assumption) ?restza11
            case hyza11 => (intro wS hSw; (try dsimp only at hSw); (repeat (obtain ⟨_, hSw⟩ := hSw)); go_simp; try (with_reducible rfl))
            try simp only [Act.put, List.setIfInBounds_toArray, List.set_cons_zero, List.set_cons_succ]
            refine wpAnyH_take (i := 11) (oi := { dst := some 44, op := Op.move (Operand.tmp 43), type := 4, pos := "law.go:98", after := #[{ on := 10, ground := Ground.data }, { on := 9, ground := Ground.chain }], guard := none }) (v := ?vvza12) rfl (by kernel_rfl) (by kernel_rfl) (by kernel_rfl) (fun _ _ _ h => h) (Or.inl ⟨by rfl, ?hyza12⟩) (by assumption) ?restza12
            case hyza12 => (intro wS hSw; (try dsimp only at hSw); (repeat (obtain ⟨_, hSw⟩ := hSw)); go_simp; try (with_reducible rfl))
            try simp only [Act.put, List.setIfInBounds_toArray, List.set_cons_zero, List.set_cons_succ]
            refine wpAnyH_take (i := 12) (oi := { dst := some 45, op := Op.move (Operand.tmp 5), type := 3, pos := "law.go:98", after := #[{ on := 11, ground := Ground.guard }], guard := some (11, false) }) (v := ?vvza13) rfl (by kernel_rfl) (by kernel_rfl) (by kernel_rfl) (fun _ _ _ h => h) (Or.inl ⟨by rfl, ?hyza13⟩) (by assumption) ?restza13
            case hyza13 => (intro wS hSw; (try dsimp only at hSw); (repeat (obtain ⟨_, hSw⟩ := hSw)); go_simp; try (with_reducible rfl))
            try simp only [Act.put, List.setIfInBounds_toArray, List.set_cons_zero, List.set_cons_succ]
            refine wpAnyH_take (i := 13) (oi := { dst := some 46, op := Op.binOp BinOp.gtr 3 (Operand.tmp 45) (Operand.const (Value.int IntKind.i64 0)) 3, type := 4, pos := "law.go:98", after := #[{ on := 12, ground := Ground.data }, { on := 11, ground := Ground.guard }], guard := some (11, false) }) (v := ?vvza14) rfl (by kernel_rfl) (by kernel_rfl) (by kernel_rfl) (fun _ _ _ h => h) (Or.inl ⟨by rfl, ?hyza14⟩) (by assumption) ?restza14
            case hyza14 => (intro wS hSw; (try dsimp only at hSw); (repeat (obtain ⟨_, hSw⟩ := hSw)); go_simp; try (with_reducible rfl))
            try simp only [Act.put, List.setIfInBounds_toArray, List.set_cons_zero, List.set_cons_succ]
            refine wpAnyH_take (i := 14) (oi := { dst := some 47, op := Op.move (Operand.tmp 46), type := 4, pos := "law.go:98", after := #[{ on := 13, ground := Ground.data }, { on := 11, ground := Ground.chain }, { on := 11, ground := Ground.guard }], guard := some (11, false) }) (v := ?vvza15) rfl (by kernel_rfl) (by kernel_rfl) (by kernel_rfl) (fun _ _ _ h => h) (Or.inl ⟨by rfl, ?hyza15⟩) (by assumption) ?restza15
            case hyza15 => (intro wS hSw; (try dsimp only at hSw); (repeat (obtain ⟨_, hSw⟩ := hSw)); go_simp; try (with_reducible rfl))
            try simp only [Act.put, List.setIfInBounds_toArray, List.set_cons_zero, List.set_cons_succ]
            refine wpAnyH_take (i := 15) (oi := { dst := some 48, op := Op.move (Operand.tmp 3), type := 30, pos := "law.go:98", after := #[{ on := 14, ground := Ground.guard }], guard := some (14, true) }) (v := undef) rfl (by kernel_rfl) (by kernel_rfl) (by kernel_rfl) (fun _ _ _ h => h) (Or.inr ⟨by rfl, rfl⟩) (by assumption) ?restza16
            try simp only [Act.put, List.setIfInBounds_toArray, List.set_cons_zero, List.set_cons_succ]
            refine wpAnyH_take (i := 16) (oi := { dst := some 49, op := Op.move (Operand.tmp 5), type := 3, pos := "law.go:98", after := #[{ on := 14, ground := Ground.guard }], guard := some (14, true) }) (v := undef) rfl (by kernel_rfl) (by kernel_rfl) (by kernel_rfl) (fun _ _ _ h => h) (Or.inr ⟨by rfl, rfl⟩) (by assumption) ?restza17
            try simp only [Act.put, List.setIfInBounds_toArray, List.set_cons_zero, List.set_cons_succ]
            refine wpAnyH_take (i := 17) (oi := { dst := some 50, op := Op.indexAddr 30 (Operand.tmp 48) (Operand.tmp 49), type := 0, pos := "law.go:98", after := #[{ on := 15, ground := Ground.data }, { on := 16, ground := Ground.data }, { on := 14, ground := Ground.guard }], guard := some (14, true) }) (v := undef) rfl (by kernel_rfl) (by kernel_rfl) (by kernel_rfl) (fun _ _ _ h => h) (Or.inr ⟨by rfl, rfl⟩) (by assumption) ?restza18
            try simp only [Act.put, List.setIfInBounds_toArray, List.set_cons_zero, List.set_cons_succ]
            refine wpAnyH_take (i := 18) (oi := { dst := some 51, op := Op.fieldAddr 36 (Operand.tmp 50) 0, type := 0, pos := "law.go:98", after := #[{ on := 17, ground := Ground.data }, { on := 14, ground := Ground.guard }], guard := some (14, true) }) (v := undef) rfl (by kernel_rfl) (by kernel_rfl) (by kernel_rfl) (fun _ _ _ h => h) (Or.inr ⟨by rfl, rfl⟩) (by assumption) ?restza19
            try simp only [Act.put, List.setIfInBounds_toArray, List.set_cons_zero, List.set_cons_succ]
            refine wpAnyH_take (i := 19) (oi := { dst := some 52, op := Op.load 3 (Operand.tmp 51), type := 3, pos := "law.go:98", after := #[{ on := 18, ground := Ground.data }, { on := 14, ground := Ground.guard }], guard := some (14, true) }) (v := undef) rfl (by kernel_rfl) (by kernel_rfl) (by kernel_rfl) (fun _ _ _ h => h) (Or.inr ⟨by rfl, rfl⟩) (by assumption) ?restza20
            try simp only [Act.put, List.setIfInBounds_toArray, List.set_cons_zero, List.set_cons_succ]
            refine wpAnyH_take (i := 20) (oi := { dst := some 53, op := Op.binOp BinOp.eql 3 (Operand.tmp 52) (Operand.const (Value.int IntKind.i64 3)) 3, type := 4, pos := "law.go:98", after := #[{ on := 19, ground := Ground.data }, { on := 14, ground := Ground.guard }], guard := some (14, true) }) (v := undef) rfl (by kernel_rfl) (by kernel_rfl) (by kernel_rfl) (fun _ _ _ h => h) (Or.inr ⟨by rfl, rfl⟩) (by assumption) ?restza21
            try simp only [Act.put, List.setIfInBounds_toArray, List.set_cons_zero, List.set_cons_succ]
            refine wpAnyH_take (i := 21) (oi := { dst := some 54, op := Op.pick (Operand.tmp 47) (Operand.tmp 53) (Operand.const (Value.bool false)), type := 4, pos := "law.go:98", after := #[{ on := 14, ground := Ground.data }, { on := 20, ground := Ground.data }, { on := 11, ground := Ground.guard }], guard := some (11, false) }) (v := ?vvza22) rfl (by kernel_rfl) (by kernel_rfl) (by kernel_rfl) (fun _ _ _ h => h) (Or.inl ⟨by rfl, ?hyza22⟩) (by assumption) ?restza22
            case hyza22 => (intro wS hSw; (try dsimp only at hSw); (repeat (obtain ⟨_, hSw⟩ := hSw)); go_simp; try (with_reducible rfl))
            try simp only [Act.put, List.setIfInBounds_toArray, List.set_cons_zero, List.set_cons_succ]
            refine wpAnyH_take (i := 22) (oi := { dst := some 55, op := Op.move (Operand.tmp 54), type := 4, pos := "law.go:98", after := #[{ on := 21, ground := Ground.data }, { on := 14, ground := Ground.chain }, { on := 11, ground := Ground.guard }], guard := some (11, false) }) (v := ?vvza23) rfl (by kernel_rfl) (by kernel_rfl) (by kernel_rfl) (fun _ _ _ h => h) (Or.inl ⟨by rfl, ?hyza23⟩) (by assumption) ?restza23
            case hyza23 => (intro wS hSw; (try dsimp only at hSw); (repeat (obtain ⟨_, hSw⟩ := hSw)); go_simp; try (with_reducible rfl))
            try simp only [Act.put, List.setIfInBounds_toArray, List.set_cons_zero, List.set_cons_succ]
            refine wpAnyH_take (i := 23) (oi := { dst := some 56, op := Op.move (Operand.tmp 3), type := 30, pos := "law.go:98", after := #[{ on := 22, ground := Ground.guard }], guard := some (22, true) }) (v := undef) rfl (by kernel_rfl) (by kernel_rfl) (by kernel_rfl) (fun _ _ _ h => h) (Or.inr ⟨by rfl, rfl⟩) (by assumption) ?restza24
            try simp only [Act.put, List.setIfInBounds_toArray, List.set_cons_zero, List.set_cons_succ]
            refine wpAnyH_take (i := 24) (oi := { dst := some 57, op := Op.move (Operand.tmp 5), type := 3, pos := "law.go:98", after := #[{ on := 22, ground := Ground.guard }], guard := some (22, true) }) (v := undef) rfl (by kernel_rfl) (by kernel_rfl) (by kernel_rfl) (fun _ _ _ h => h) (Or.inr ⟨by rfl, rfl⟩) (by assumption) ?restza25
            try simp only [Act.put, List.setIfInBounds_toArray, List.set_cons_zero, List.set_cons_succ]
            refine wpAnyH_take (i := 25) (oi := { dst := some 58, op := Op.binOp BinOp.sub 3 (Operand.tmp 57) (Operand.const (Value.int IntKind.i64 1)) 3, type := 3, pos := "law.go:98", after := #[{ on := 24, ground := Ground.data }, { on := 22, ground := Ground.guard }], guard := some (22, true) }) (v := undef) rfl (by kernel_rfl) (by kernel_rfl) (by kernel_rfl) (fun _ _ _ h => h) (Or.inr ⟨by rfl, rfl⟩) (by assumption) ?restza26
            try simp only [Act.put, List.setIfInBounds_toArray, List.set_cons_zero, List.set_cons_succ]
            refine wpAnyH_take (i := 26) (oi := { dst := some 59, op := Op.indexAddr 30 (Operand.tmp 56) (Operand.tmp 58), type := 0, pos := "law.go:98", after := #[{ on := 23, ground := Ground.data }, { on := 25, ground := Ground.data }, { on := 22, ground := Ground.guard }], guard := some (22, true) }) (v := undef) rfl (by kernel_rfl) (by kernel_rfl) (by kernel_rfl) (fun _ _ _ h => h) (Or.inr ⟨by rfl, rfl⟩) (by assumption) ?restza27
            try simp only [Act.put, List.setIfInBounds_toArray, List.set_cons_zero, List.set_cons_succ]
            refine wpAnyH_take (i := 27) (oi := { dst := some 60, op := Op.fieldAddr 36 (Operand.tmp 59) 0, type := 0, pos := "law.go:98", after := #[{ on := 26, ground := Ground.data }, { on := 22, ground := Ground.guard }], guard := some (22, true) }) (v := undef) rfl (by kernel_rfl) (by kernel_rfl) (by kernel_rfl) (fun _ _ _ h => h) (Or.inr ⟨by rfl, rfl⟩) (by assumption) ?restza28
            try simp only [Act.put, List.setIfInBounds_toArray, List.set_cons_zero, List.set_cons_succ]
            refine wpAnyH_take (i := 28) (oi := { dst := some 61, op := Op.load 3 (Operand.tmp 60), type := 3, pos := "law.go:98", after := #[{ on := 27, ground := Ground.data }, { on := 22, ground := Ground.guard }], guard := some (22, true) }) (v := undef) rfl (by kernel_rfl) (by kernel_rfl) (by kernel_rfl) (fun _ _ _ h => h) (Or.inr ⟨by rfl, rfl⟩) (by assumption) ?restza29
            try simp only [Act.put, List.setIfInBounds_toArray, List.set_cons_zero, List.set_cons_succ]
            refine wpAnyH_take (i := 29) (oi := { dst := some 62, op := Op.binOp BinOp.eql 3 (Operand.tmp 61) (Operand.const (Value.int IntKind.i64 3)) 3, type := 4, pos := "law.go:98", after := #[{ on := 28, ground := Ground.data }, { on := 22, ground := Ground.guard }], guard := some (22, true) }) (v := undef) rfl (by kernel_rfl) (by kernel_rfl) (by kernel_rfl) (fun _ _ _ h => h) (Or.inr ⟨by rfl, rfl⟩) (by assumption) ?restza30
            try simp only [Act.put, List.setIfInBounds_toArray, List.set_cons_zero, List.set_cons_succ]
            refine wpAnyH_take (i := 30) (oi := { dst := some 63, op := Op.pick (Operand.tmp 55) (Operand.tmp 62) (Operand.const (Value.bool false)), type := 4, pos := "law.go:98", after := #[{ on := 22, ground := Ground.data }, { on := 29, ground := Ground.data }, { on := 11, ground := Ground.guard }], guard := some (11, false) }) (v := ?vvza31) rfl (by kernel_rfl) (by kernel_rfl) (by kernel_rfl) (fun _ _ _ h => h) (Or.inl ⟨by rfl, ?hyza31⟩) (by assumption) ?restza31
            case hyza31 => (intro wS hSw; (try dsimp only at hSw); (repeat (obtain ⟨_, hSw⟩ := hSw)); go_simp; try (with_reducible rfl))
            try simp only [Act.put, List.setIfInBounds_toArray, List.set_cons_zero, List.set_cons_succ]
            refine wpAnyH_take (i := 31) (oi := { dst := some 64, op := Op.pick (Operand.tmp 44) (Operand.const (Value.bool true)) (Operand.tmp 63), type := 4, pos := "law.go:98", after := #[{ on := 11, ground := Ground.data }, { on := 30, ground := Ground.data }], guard := none }) (v := ?vvza32) rfl (by kernel_rfl) (by kernel_rfl) (by kernel_rfl) (fun _ _ _ h => h) (Or.inl ⟨by rfl, ?hyza32⟩) (by assumption) ?restza32
            case hyza32 => (intro wS hSw; (try dsimp only at hSw); (repeat (obtain ⟨_, hSw⟩ := hSw)); go_simp; try (with_reducible rfl))
            try simp only [Act.put, List.setIfInBounds_toArray, List.set_cons_zero, List.set_cons_succ]
            refine wpAnyH_done (by kernel_rfl) ?_ _
            go_wp2_with fail
            go_roundw
            case rel => exact ⟨j + 1, hlt, by go_num, hkept.trans kw2⟩
            case measure =>
              simp [intOf]
              omega
          exact AllReadyH.nil
        exact AllReadyH.nil
      · have i0 : (0 : Int) < j := by omega
        by_cases ha3 : vk = 3
        · obtain ⟨q, hq⟩ : ∃ q, q + 1 = j := ⟨j - 1, by omega⟩
          obtain ⟨rb, ro, pk, pn, pbA, pbn, pbc, pbs, paA, pan, pac, pal, pt, pg, pkA, pkn, pkc, pks, hA, hp, p0, _⟩ := cells9 hLj.1 (k := q) (by omega)
          injection hA with hA
          injection hA with hA1 hA2
          subst hA1 hA2
          have hpt := map_get (f := Nd.tr) hp
          rw [HL1T.out] at hpt
          have hpk : ¬ pk = 3 := by
            intro h3
            have h4 := nrm_pair (nrm_merged X.kids) hpt (by rw [hq]; exact HAT.out) (by rw [Nd.kind_tr]; exact h3)
            rw [Nd.kind_tr] at h4
            exact h4 ha3
          have p3 : (pk == 3) = false := by simpa using hpk
          have HQ := Lib.hid hq
          have isub : IntKind.i64.wrap (q : Int) = (q : Int) := IntWalk.i64_in _ (by omega)
          have isub2 : (j : Int) - 1 = (q : Int) := by omega
          have iq : (q : Int) < m3 := by omega
          have iqn : q < m3 := by omega
          have v3 : (vk == 3) = true := by simpa using ha3
          clear hp hpt hq ha3
          have MK : Hid (∀ w', Kept wr w' → w'.cell? ⟨pb, po + j * 9, none⟩ = some (.int .i64 vk) ∧ w'.cell? ⟨pb, po + j * 9 + 1, none⟩ = some (.string vn.u) ∧ w'.cell? ⟨pb, po + j * 9 + 2, none⟩ = some (.string vn.l) ∧ w'.cell? ⟨pb, po + j * 9 + 3, none⟩ = some (.string vn.p) ∧ w'.cell? ⟨pb, po + j * 9 + 4, none⟩ = some (.slice vbA vbn vbc) ∧ w'.cell? ⟨pb, po + j * 9 + 5, none⟩ = some (.slice vaA van vac) ∧ w'.cell? ⟨pb, po + j * 9 + 6, none⟩ = some (.string vt) ∧ w'.cell? ⟨pb, po + j * 9 + 7, none⟩ = some (.string vg) ∧ w'.cell? ⟨pb, po + j * 9 + 8, none⟩ = some (.slice vkA vkn vkc) ∧ w'.cell? ⟨qb, qo + j * 9, none⟩ = some (.int .i64 ck) ∧ w'.cell? ⟨qb, qo + j * 9 + 1, none⟩ = some (.string cn.u) ∧ w'.cell? ⟨qb, qo + j * 9 + 2, none⟩ = some (.string cn.l) ∧ w'.cell? ⟨qb, qo + j * 9 + 3, none⟩ = some (.string cn.p) ∧ w'.cell? ⟨qb, qo + j * 9 + 4, none⟩ = some (.slice cbA cbn cbc) ∧ w'.cell? ⟨qb, qo + j * 9 + 5, none⟩ = some (.slice caA can cac) ∧ w'.cell? ⟨qb, qo + j * 9 + 6, none⟩ = some (.string ct) ∧ w'.cell? ⟨qb, qo + j * 9 + 7, none⟩ = some (.string cg) ∧ w'.cell? ⟨qb, qo + j * 9 + 8, none⟩ = some (.slice ckA ckn ckc) ∧ w'.cell? ⟨pb, po + q * 9, none⟩ = some (.int .i64 pk)) := fun w' kk => by
            obtain ⟨r0, r1, r2, r3, r4, r5, r6, r7, r8, r9, r10, r11, r12, r13, r14, r15, r16, r17⟩ := KA.out w' kk
            exact ⟨r0, r1, r2, r3, r4, r5, r6, r7, r8, r9, r10, r11, r12, r13, r14, r15, r16, r17, kk.cell p0⟩
          clear KA
          go_upto_region 9 with fail
          refine wp_region_held_drew (S := fun w' => w'.cell? ⟨pb, po + j * 9, none⟩ = some (.int .i64 vk) ∧ w'.cell? ⟨pb, po + j * 9 + 1, none⟩ = some (.string vn.u) ∧ w'.cell? ⟨pb, po + j * 9 + 2, none⟩ = some (.string vn.l) ∧ w'.cell? ⟨pb, po + j * 9 + 3, none⟩ = some (.string vn.p) ∧ w'.cell? ⟨pb, po + j * 9 + 4, none⟩ = some (.slice vbA vbn vbc) ∧ w'.cell? ⟨pb, po + j * 9 + 5, none⟩ = some (.slice vaA van vac) ∧ w'.cell? ⟨pb, po + j * 9 + 6, none⟩ = some (.string vt) ∧ w'.cell? ⟨pb, po + j * 9 + 7, none⟩ = some (.string vg) ∧ w'.cell? ⟨pb, po + j * 9 + 8, none⟩ = some (.slice vkA vkn vkc) ∧ w'.cell? ⟨qb, qo + j * 9, none⟩ = some (.int .i64 ck) ∧ w'.cell? ⟨qb, qo + j * 9 + 1, none⟩ = some (.string cn.u) ∧ w'.cell? ⟨qb, qo + j * 9 + 2, none⟩ = some (.string cn.l) ∧ w'.cell? ⟨qb, qo + j * 9 + 3, none⟩ = some (.string cn.p) ∧ w'.cell? ⟨qb, qo + j * 9 + 4, none⟩ = some (.slice cbA cbn cbc) ∧ w'.cell? ⟨qb, qo + j * 9 + 5, none⟩ = some (.slice caA can cac) ∧ w'.cell? ⟨qb, qo + j * 9 + 6, none⟩ = some (.string ct) ∧ w'.cell? ⟨qb, qo + j * 9 + 7, none⟩ = some (.string cg) ∧ w'.cell? ⟨qb, qo + j * 9 + 8, none⟩ = some (.slice ckA ckn ckc) ∧ w'.cell? ⟨pb, po + q * 9, none⟩ = some (.int .i64 pk)) (by kernel_rfl) (MK.out _ (Kept.refl wr).drew) (fun hHeld => ?_)
          skip
          refine wpAnyH_take (i := 0) (oi := { dst := some 33, op := Op.move (Operand.tmp 3), type := 30, pos := "law.go:98", after := #[], guard := none }) (v := ?vvzb1) rfl (by kernel_rfl) (by kernel_rfl) (by kernel_rfl) (fun _ _ _ h => h) (Or.inl ⟨by rfl, ?hyzb1⟩) (by assumption) ?restzb1
          case hyzb1 => (intro wS hSw; (try dsimp only at hSw); (repeat (obtain ⟨_, hSw⟩ := hSw)); go_simp; try (with_reducible rfl))
          try simp only [Act.put, List.setIfInBounds_toArray, List.set_cons_zero, List.set_cons_succ]
          refine wpAnyH_take (i := 1) (oi := { dst := some 34, op := Op.move (Operand.tmp 5), type := 3, pos := "law.go:98", after := #[], guard := none }) (v := ?vvzb2) rfl (by kernel_rfl) (by kernel_rfl) (by kernel_rfl) (fun _ _ _ h => h) (Or.inl ⟨by rfl, ?hyzb2⟩) (by assumption) ?restzb2
          case hyzb2 => (intro wS hSw; (try dsimp only at hSw); (repeat (obtain ⟨_, hSw⟩ := hSw)); go_simp; try (with_reducible rfl))
          try simp only [Act.put, List.setIfInBounds_toArray, List.set_cons_zero, List.set_cons_succ]
          refine wpAnyH_take (i := 2) (oi := { dst := some 35, op := Op.indexAddr 30 (Operand.tmp 33) (Operand.tmp 34), type := 0, pos := "law.go:98", after := #[{ on := 0, ground := Ground.data }, { on := 1, ground := Ground.data }], guard := none }) (v := ?vvzb3) rfl (by kernel_rfl) (by kernel_rfl) (by kernel_rfl) (fun _ _ _ h => h) (Or.inl ⟨by rfl, ?hyzb3⟩) (by assumption) ?restzb3
          case hyzb3 => (intro wS hSw; (try dsimp only at hSw); (repeat (obtain ⟨_, hSw⟩ := hSw)); go_simp; try (with_reducible rfl))
          try simp only [Act.put, List.setIfInBounds_toArray, List.set_cons_zero, List.set_cons_succ]
          refine wpAnyH_take (i := 3) (oi := { dst := some 36, op := Op.load 36 (Operand.tmp 35), type := 36, pos := "law.go:98", after := #[{ on := 2, ground := Ground.data }], guard := none }) (v := ?vvzb4) rfl (by kernel_rfl) (by kernel_rfl) (by kernel_rfl) (fun _ _ _ h => h) (Or.inl ⟨by rfl, ?hyzb4⟩) (by assumption) ?restzb4
          case hyzb4 => (intro wS hSw; (try dsimp only at hSw); (repeat (obtain ⟨_, hSw⟩ := hSw)); go_simp; try (with_reducible rfl))
          try simp only [Act.put, List.setIfInBounds_toArray, List.set_cons_zero, List.set_cons_succ]
          refine wpAnyH_take (i := 5) (oi := { dst := some 38, op := Op.move (Operand.tmp 4), type := 26, pos := "law.go:98", after := #[], guard := none }) (v := ?vvzb5) rfl (by kernel_rfl) (by kernel_rfl) (by kernel_rfl) (fun _ _ _ h => h) (Or.inl ⟨by rfl, ?hyzb5⟩) (by assumption) ?restzb5
          case hyzb5 => (intro wS hSw; (try dsimp only at hSw); (repeat (obtain ⟨_, hSw⟩ := hSw)); go_simp; try (with_reducible rfl))
          try simp only [Act.put, List.setIfInBounds_toArray, List.set_cons_zero, List.set_cons_succ]
          refine wpAnyH_take (i := 6) (oi := { dst := some 39, op := Op.move (Operand.tmp 5), type := 3, pos := "law.go:98", after := #[], guard := none }) (v := ?vvzb6) rfl (by kernel_rfl) (by kernel_rfl) (by kernel_rfl) (fun _ _ _ h => h) (Or.inl ⟨by rfl, ?hyzb6⟩) (by assumption) ?restzb6
          case hyzb6 => (intro wS hSw; (try dsimp only at hSw); (repeat (obtain ⟨_, hSw⟩ := hSw)); go_simp; try (with_reducible rfl))
          try simp only [Act.put, List.setIfInBounds_toArray, List.set_cons_zero, List.set_cons_succ]
          refine wpAnyH_take (i := 7) (oi := { dst := some 40, op := Op.indexAddr 26 (Operand.tmp 38) (Operand.tmp 39), type := 0, pos := "law.go:98", after := #[{ on := 5, ground := Ground.data }, { on := 6, ground := Ground.data }], guard := none }) (v := ?vvzb7) rfl (by kernel_rfl) (by kernel_rfl) (by kernel_rfl) (fun _ _ _ h => h) (Or.inl ⟨by rfl, ?hyzb7⟩) (by assumption) ?restzb7
          case hyzb7 => (intro wS hSw; (try dsimp only at hSw); (repeat (obtain ⟨_, hSw⟩ := hSw)); go_simp; try (with_reducible rfl))
          try simp only [Act.put, List.setIfInBounds_toArray, List.set_cons_zero, List.set_cons_succ]
          refine wpAnyH_take (i := 8) (oi := { dst := some 41, op := Op.load 28 (Operand.tmp 40), type := 28, pos := "law.go:98", after := #[{ on := 7, ground := Ground.data }], guard := none }) (v := ?vvzb8) rfl (by kernel_rfl) (by kernel_rfl) (by kernel_rfl) (fun _ _ _ h => h) (Or.inl ⟨by rfl, ?hyzb8⟩) (by assumption) ?restzb8
          case hyzb8 => (intro wS hSw; (try dsimp only at hSw); (repeat (obtain ⟨_, hSw⟩ := hSw)); go_simp; try (with_reducible rfl))
          try simp only [Act.put, List.setIfInBounds_toArray, List.set_cons_zero, List.set_cons_succ]
          refine wpAnyH_ready (rs := [4]) (by kernel_rfl) (by simp) ?_
          refine AllReadyH.cons (o := { dst := some 37, op := Op.call { callee := Callee.value (Operand.func 12), args := #[Operand.tmp 36], argTypes := #[36] }, type := 28, pos := "law.go:98", after := #[{ on := 3, ground := Ground.data }], guard := none }) rfl (fun K hK => ?stepzb9) ?morezb9
          case stepzb9 =>
            go_simp
            go_at_call 12
            refine (HPL.out _ (Kept.refl wr).drew).mono ?_
            rintro e wa ⟨uk, un, ubA, ubn, ubc, ubs, uaA, uan, uac, ual, ut, ug, ukA, ukn, ukc, uks, rfl, hu, kw1⟩
            go_wp2_with fail
            refine hK.out _ _ (by first | exact MK.out _ kw2 | exact MK.out _ kw1 | exact MK.out _ (Kept.refl wr).drew) (fun hHeld => ?_)
            clear hK K
            try simp only [Act.put, List.setIfInBounds_toArray, List.set_cons_zero, List.set_cons_succ]
            refine wpAnyH_ready (rs := [9]) (by kernel_rfl) (by simp) ?_
            refine AllReadyH.cons (o := { dst := some 42, op := Op.call { callee := Callee.value (Operand.func 11), args := #[Operand.tmp 37, Operand.tmp 41], argTypes := #[28, 28] }, type := 4, pos := "law.go:98", after := #[{ on := 4, ground := Ground.data }, { on := 8, ground := Ground.data }, { on := 4, ground := Ground.chain }], guard := none }) rfl (fun K hK => ?stepzb10) ?morezb10
            case stepzb10 =>
              go_simp
              go_at_call 11
              refine (HSM.out uk un ubA ubn ubc ubs uaA uan uac ual ut ug ukA ukn ukc uks _ hu kw1).mono ?_
              rintro e wb ⟨rfl, kb⟩
              have kw2 : Kept wr wb := kw1.trans kb
              go_wp2_with fail
              refine hK.out _ _ (by first | exact MK.out _ kw2 | exact MK.out _ kw1 | exact MK.out _ (Kept.refl wr).drew) (fun hHeld => ?_)
              clear hK K
              try simp only [Act.put, List.setIfInBounds_toArray, List.set_cons_zero, List.set_cons_succ]
              refine wpAnyH_take (i := 10) (oi := { dst := some 43, op := Op.unOp UnOp.not 4 (Operand.tmp 42), type := 4, pos := "law.go:98", after := #[{ on := 9, ground := Ground.data }], guard := none }) (v := ?vvzb11) rfl (by kernel_rfl) (by kernel_rfl) (by kernel_rfl) (fun _ _ _ h => h) (Or.inl ⟨by rfl, ?hyzb11⟩) (by assumption) ?restzb11
              case hyzb11 => (intro wS hSw; (try dsimp only at hSw); (repeat (obtain ⟨_, hSw⟩ := hSw)); go_simp; try (with_reducible rfl))
              try simp only [Act.put, List.setIfInBounds_toArray, List.set_cons_zero, List.set_cons_succ]
              refine wpAnyH_take (i := 11) (oi := { dst := some 44, op := Op.move (Operand.tmp 43), type := 4, pos := "law.go:98", after := #[{ on := 10, ground := Ground.data }, { on := 9, ground := Ground.chain }], guard := none }) (v := ?vvzb12) rfl (by kernel_rfl) (by kernel_rfl) (by kernel_rfl) (fun _ _ _ h => h) (Or.inl ⟨by rfl, ?hyzb12⟩) (by assumption) ?restzb12
              case hyzb12 => (intro wS hSw; (try dsimp only at hSw); (repeat (obtain ⟨_, hSw⟩ := hSw)); go_simp; try (with_reducible rfl))
              try simp only [Act.put, List.setIfInBounds_toArray, List.set_cons_zero, List.set_cons_succ]
              refine wpAnyH_take (i := 12) (oi := { dst := some 45, op := Op.move (Operand.tmp 5), type := 3, pos := "law.go:98", after := #[{ on := 11, ground := Ground.guard }], guard := some (11, false) }) (v := ?vvzb13) rfl (by kernel_rfl) (by kernel_rfl) (by kernel_rfl) (fun _ _ _ h => h) (Or.inl ⟨by rfl, ?hyzb13⟩) (by assumption) ?restzb13
              case hyzb13 => (intro wS hSw; (try dsimp only at hSw); (repeat (obtain ⟨_, hSw⟩ := hSw)); go_simp; try (with_reducible rfl))
              try simp only [Act.put, List.setIfInBounds_toArray, List.set_cons_zero, List.set_cons_succ]
              refine wpAnyH_take (i := 13) (oi := { dst := some 46, op := Op.binOp BinOp.gtr 3 (Operand.tmp 45) (Operand.const (Value.int IntKind.i64 0)) 3, type := 4, pos := "law.go:98", after := #[{ on := 12, ground := Ground.data }, { on := 11, ground := Ground.guard }], guard := some (11, false) }) (v := ?vvzb14) rfl (by kernel_rfl) (by kernel_rfl) (by kernel_rfl) (fun _ _ _ h => h) (Or.inl ⟨by rfl, ?hyzb14⟩) (by assumption) ?restzb14
              case hyzb14 => (intro wS hSw; (try dsimp only at hSw); (repeat (obtain ⟨_, hSw⟩ := hSw)); go_simp; try (with_reducible rfl))
              try simp only [Act.put, List.setIfInBounds_toArray, List.set_cons_zero, List.set_cons_succ]
              refine wpAnyH_take (i := 14) (oi := { dst := some 47, op := Op.move (Operand.tmp 46), type := 4, pos := "law.go:98", after := #[{ on := 13, ground := Ground.data }, { on := 11, ground := Ground.chain }, { on := 11, ground := Ground.guard }], guard := some (11, false) }) (v := ?vvzb15) rfl (by kernel_rfl) (by kernel_rfl) (by kernel_rfl) (fun _ _ _ h => h) (Or.inl ⟨by rfl, ?hyzb15⟩) (by assumption) ?restzb15
              case hyzb15 => (intro wS hSw; (try dsimp only at hSw); (repeat (obtain ⟨_, hSw⟩ := hSw)); go_simp; try (with_reducible rfl))
              try simp only [Act.put, List.setIfInBounds_toArray, List.set_cons_zero, List.set_cons_succ]
              refine wpAnyH_take (i := 15) (oi := { dst := some 48, op := Op.move (Operand.tmp 3), type := 30, pos := "law.go:98", after := #[{ on := 14, ground := Ground.guard }], guard := some (14, true) }) (v := ?vvzb16) rfl (by kernel_rfl) (by kernel_rfl) (by kernel_rfl) (fun _ _ _ h => h) (Or.inl ⟨by rfl, ?hyzb16⟩) (by assumption) ?restzb16
              case hyzb16 => (intro wS hSw; (try dsimp only at hSw); (repeat (obtain ⟨_, hSw⟩ := hSw)); go_simp; try (with_reducible rfl))
              try simp only [Act.put, List.setIfInBounds_toArray, List.set_cons_zero, List.set_cons_succ]
              refine wpAnyH_take (i := 16) (oi := { dst := some 49, op := Op.move (Operand.tmp 5), type := 3, pos := "law.go:98", after := #[{ on := 14, ground := Ground.guard }], guard := some (14, true) }) (v := ?vvzb17) rfl (by kernel_rfl) (by kernel_rfl) (by kernel_rfl) (fun _ _ _ h => h) (Or.inl ⟨by rfl, ?hyzb17⟩) (by assumption) ?restzb17
              case hyzb17 => (intro wS hSw; (try dsimp only at hSw); (repeat (obtain ⟨_, hSw⟩ := hSw)); go_simp; try (with_reducible rfl))
              try simp only [Act.put, List.setIfInBounds_toArray, List.set_cons_zero, List.set_cons_succ]
              refine wpAnyH_take (i := 17) (oi := { dst := some 50, op := Op.indexAddr 30 (Operand.tmp 48) (Operand.tmp 49), type := 0, pos := "law.go:98", after := #[{ on := 15, ground := Ground.data }, { on := 16, ground := Ground.data }, { on := 14, ground := Ground.guard }], guard := some (14, true) }) (v := ?vvzb18) rfl (by kernel_rfl) (by kernel_rfl) (by kernel_rfl) (fun _ _ _ h => h) (Or.inl ⟨by rfl, ?hyzb18⟩) (by assumption) ?restzb18
              case hyzb18 => (intro wS hSw; (try dsimp only at hSw); (repeat (obtain ⟨_, hSw⟩ := hSw)); go_simp; try (with_reducible rfl))
              try simp only [Act.put, List.setIfInBounds_toArray, List.set_cons_zero, List.set_cons_succ]
              refine wpAnyH_take (i := 18) (oi := { dst := some 51, op := Op.fieldAddr 36 (Operand.tmp 50) 0, type := 0, pos := "law.go:98", after := #[{ on := 17, ground := Ground.data }, { on := 14, ground := Ground.guard }], guard := some (14, true) }) (v := ?vvzb19) rfl (by kernel_rfl) (by kernel_rfl) (by kernel_rfl) (fun _ _ _ h => h) (Or.inl ⟨by rfl, ?hyzb19⟩) (by assumption) ?restzb19
              case hyzb19 => (intro wS hSw; (try dsimp only at hSw); (repeat (obtain ⟨_, hSw⟩ := hSw)); go_simp; try (with_reducible rfl))
              try simp only [Act.put, List.setIfInBounds_toArray, List.set_cons_zero, List.set_cons_succ]
              refine wpAnyH_take (i := 19) (oi := { dst := some 52, op := Op.load 3 (Operand.tmp 51), type := 3, pos := "law.go:98", after := #[{ on := 18, ground := Ground.data }, { on := 14, ground := Ground.guard }], guard := some (14, true) }) (v := ?vvzb20) rfl (by kernel_rfl) (by kernel_rfl) (by kernel_rfl) (fun _ _ _ h => h) (Or.inl ⟨by rfl, ?hyzb20⟩) (by assumption) ?restzb20
              case hyzb20 => (intro wS hSw; (try dsimp only at hSw); (repeat (obtain ⟨_, hSw⟩ := hSw)); go_simp; try (with_reducible rfl))
              try simp only [Act.put, List.setIfInBounds_toArray, List.set_cons_zero, List.set_cons_succ]
              refine wpAnyH_take (i := 20) (oi := { dst := some 53, op := Op.binOp BinOp.eql 3 (Operand.tmp 52) (Operand.const (Value.int IntKind.i64 3)) 3, type := 4, pos := "law.go:98", after := #[{ on := 19, ground := Ground.data }, { on := 14, ground := Ground.guard }], guard := some (14, true) }) (v := ?vvzb21) rfl (by kernel_rfl) (by kernel_rfl) (by kernel_rfl) (fun _ _ _ h => h) (Or.inl ⟨by rfl, ?hyzb21⟩) (by assumption) ?restzb21
              case hyzb21 => (intro wS hSw; (try dsimp only at hSw); (repeat (obtain ⟨_, hSw⟩ := hSw)); go_simp; try (with_reducible rfl))
              try simp only [Act.put, List.setIfInBounds_toArray, List.set_cons_zero, List.set_cons_succ]
              refine wpAnyH_take (i := 21) (oi := { dst := some 54, op := Op.pick (Operand.tmp 47) (Operand.tmp 53) (Operand.const (Value.bool false)), type := 4, pos := "law.go:98", after := #[{ on := 14, ground := Ground.data }, { on := 20, ground := Ground.data }, { on := 11, ground := Ground.guard }], guard := some (11, false) }) (v := ?vvzb22) rfl (by kernel_rfl) (by kernel_rfl) (by kernel_rfl) (fun _ _ _ h => h) (Or.inl ⟨by rfl, ?hyzb22⟩) (by assumption) ?restzb22
              case hyzb22 => (intro wS hSw; (try dsimp only at hSw); (repeat (obtain ⟨_, hSw⟩ := hSw)); go_simp; try (with_reducible rfl))
              try simp only [Act.put, List.setIfInBounds_toArray, List.set_cons_zero, List.set_cons_succ]
              refine wpAnyH_take (i := 22) (oi := { dst := some 55, op := Op.move (Operand.tmp 54), type := 4, pos := "law.go:98", after := #[{ on := 21, ground := Ground.data }, { on := 14, ground := Ground.chain }, { on := 11, ground := Ground.guard }], guard := some (11, false) }) (v := ?vvzb23) rfl (by kernel_rfl) (by kernel_rfl) (by kernel_rfl) (fun _ _ _ h => h) (Or.inl ⟨by rfl, ?hyzb23⟩) (by assumption) ?restzb23
              case hyzb23 => (intro wS hSw; (try dsimp only at hSw); (repeat (obtain ⟨_, hSw⟩ := hSw)); go_simp; try (with_reducible rfl))
              try simp only [Act.put, List.setIfInBounds_toArray, List.set_cons_zero, List.set_cons_succ]
              refine wpAnyH_take (i := 23) (oi := { dst := some 56, op := Op.move (Operand.tmp 3), type := 30, pos := "law.go:98", after := #[{ on := 22, ground := Ground.guard }], guard := some (22, true) }) (v := ?vvzb24) rfl (by kernel_rfl) (by kernel_rfl) (by kernel_rfl) (fun _ _ _ h => h) (Or.inl ⟨by rfl, ?hyzb24⟩) (by assumption) ?restzb24
              case hyzb24 => (intro wS hSw; (try dsimp only at hSw); (repeat (obtain ⟨_, hSw⟩ := hSw)); go_simp; try (with_reducible rfl))
              try simp only [Act.put, List.setIfInBounds_toArray, List.set_cons_zero, List.set_cons_succ]
              refine wpAnyH_take (i := 24) (oi := { dst := some 57, op := Op.move (Operand.tmp 5), type := 3, pos := "law.go:98", after := #[{ on := 22, ground := Ground.guard }], guard := some (22, true) }) (v := ?vvzb25) rfl (by kernel_rfl) (by kernel_rfl) (by kernel_rfl) (fun _ _ _ h => h) (Or.inl ⟨by rfl, ?hyzb25⟩) (by assumption) ?restzb25
              case hyzb25 => (intro wS hSw; (try dsimp only at hSw); (repeat (obtain ⟨_, hSw⟩ := hSw)); go_simp; try (with_reducible rfl))
              try simp only [Act.put, List.setIfInBounds_toArray, List.set_cons_zero, List.set_cons_succ]
              refine wpAnyH_take (i := 25) (oi := { dst := some 58, op := Op.binOp BinOp.sub 3 (Operand.tmp 57) (Operand.const (Value.int IntKind.i64 1)) 3, type := 3, pos := "law.go:98", after := #[{ on := 24, ground := Ground.data }, { on := 22, ground := Ground.guard }], guard := some (22, true) }) (v := ?vvzb26) rfl (by kernel_rfl) (by kernel_rfl) (by kernel_rfl) (fun _ _ _ h => h) (Or.inl ⟨by rfl, ?hyzb26⟩) (by assumption) ?restzb26
              case hyzb26 => (intro wS hSw; (try dsimp only at hSw); (repeat (obtain ⟨_, hSw⟩ := hSw)); go_simp; try (with_reducible rfl))
              try simp only [Act.put, List.setIfInBounds_toArray, List.set_cons_zero, List.set_cons_succ]
              refine wpAnyH_take (i := 26) (oi := { dst := some 59, op := Op.indexAddr 30 (Operand.tmp 56) (Operand.tmp 58), type := 0, pos := "law.go:98", after := #[{ on := 23, ground := Ground.data }, { on := 25, ground := Ground.data }, { on := 22, ground := Ground.guard }], guard := some (22, true) }) (v := ?vvzb27) rfl (by kernel_rfl) (by kernel_rfl) (by kernel_rfl) (fun _ _ _ h => h) (Or.inl ⟨by rfl, ?hyzb27⟩) (by assumption) ?restzb27
              case hyzb27 => (intro wS hSw; (try dsimp only at hSw); (repeat (obtain ⟨_, hSw⟩ := hSw)); go_simp; try (with_reducible rfl))
              try simp only [Act.put, List.setIfInBounds_toArray, List.set_cons_zero, List.set_cons_succ]
              refine wpAnyH_take (i := 27) (oi := { dst := some 60, op := Op.fieldAddr 36 (Operand.tmp 59) 0, type := 0, pos := "law.go:98", after := #[{ on := 26, ground := Ground.data }, { on := 22, ground := Ground.guard }], guard := some (22, true) }) (v := ?vvzb28) rfl (by kernel_rfl) (by kernel_rfl) (by kernel_rfl) (fun _ _ _ h => h) (Or.inl ⟨by rfl, ?hyzb28⟩) (by assumption) ?restzb28
              case hyzb28 => (intro wS hSw; (try dsimp only at hSw); (repeat (obtain ⟨_, hSw⟩ := hSw)); go_simp; try (with_reducible rfl))
              try simp only [Act.put, List.setIfInBounds_toArray, List.set_cons_zero, List.set_cons_succ]
              refine wpAnyH_take (i := 28) (oi := { dst := some 61, op := Op.load 3 (Operand.tmp 60), type := 3, pos := "law.go:98", after := #[{ on := 27, ground := Ground.data }, { on := 22, ground := Ground.guard }], guard := some (22, true) }) (v := ?vvzb29) rfl (by kernel_rfl) (by kernel_rfl) (by kernel_rfl) (fun _ _ _ h => h) (Or.inl ⟨by rfl, ?hyzb29⟩) (by assumption) ?restzb29
              case hyzb29 => (intro wS hSw; (try dsimp only at hSw); (repeat (obtain ⟨_, hSw⟩ := hSw)); go_simp; try (with_reducible rfl))
              try simp only [Act.put, List.setIfInBounds_toArray, List.set_cons_zero, List.set_cons_succ]
              refine wpAnyH_take (i := 29) (oi := { dst := some 62, op := Op.binOp BinOp.eql 3 (Operand.tmp 61) (Operand.const (Value.int IntKind.i64 3)) 3, type := 4, pos := "law.go:98", after := #[{ on := 28, ground := Ground.data }, { on := 22, ground := Ground.guard }], guard := some (22, true) }) (v := ?vvzb30) rfl (by kernel_rfl) (by kernel_rfl) (by kernel_rfl) (fun _ _ _ h => h) (Or.inl ⟨by rfl, ?hyzb30⟩) (by assumption) ?restzb30
              case hyzb30 => (intro wS hSw; (try dsimp only at hSw); (repeat (obtain ⟨_, hSw⟩ := hSw)); go_simp; try (with_reducible rfl))
              try simp only [Act.put, List.setIfInBounds_toArray, List.set_cons_zero, List.set_cons_succ]
              refine wpAnyH_take (i := 30) (oi := { dst := some 63, op := Op.pick (Operand.tmp 55) (Operand.tmp 62) (Operand.const (Value.bool false)), type := 4, pos := "law.go:98", after := #[{ on := 22, ground := Ground.data }, { on := 29, ground := Ground.data }, { on := 11, ground := Ground.guard }], guard := some (11, false) }) (v := ?vvzb31) rfl (by kernel_rfl) (by kernel_rfl) (by kernel_rfl) (fun _ _ _ h => h) (Or.inl ⟨by rfl, ?hyzb31⟩) (by assumption) ?restzb31
              case hyzb31 => (intro wS hSw; (try dsimp only at hSw); (repeat (obtain ⟨_, hSw⟩ := hSw)); go_simp; try (with_reducible rfl))
              try simp only [Act.put, List.setIfInBounds_toArray, List.set_cons_zero, List.set_cons_succ]
              refine wpAnyH_take (i := 31) (oi := { dst := some 64, op := Op.pick (Operand.tmp 44) (Operand.const (Value.bool true)) (Operand.tmp 63), type := 4, pos := "law.go:98", after := #[{ on := 11, ground := Ground.data }, { on := 30, ground := Ground.data }], guard := none }) (v := ?vvzb32) rfl (by kernel_rfl) (by kernel_rfl) (by kernel_rfl) (fun _ _ _ h => h) (Or.inl ⟨by rfl, ?hyzb32⟩) (by assumption) ?restzb32
              case hyzb32 => (intro wS hSw; (try dsimp only at hSw); (repeat (obtain ⟨_, hSw⟩ := hSw)); go_simp; try (with_reducible rfl))
              try simp only [Act.put, List.setIfInBounds_toArray, List.set_cons_zero, List.set_cons_succ]
              refine wpAnyH_done (by kernel_rfl) ?_ _
              go_wp2_with fail
              go_roundw
              case rel => exact ⟨j + 1, hlt, by go_num, hkept.trans kw2⟩
              case measure =>
                simp [intOf]
                omega
            exact AllReadyH.nil
          exact AllReadyH.nil
        · have v3 : (vk == 3) = false := by simpa using ha3
          have MK : Hid (∀ w', Kept wr w' → w'.cell? ⟨pb, po + j * 9, none⟩ = some (.int .i64 vk) ∧ w'.cell? ⟨pb, po + j * 9 + 1, none⟩ = some (.string vn.u) ∧ w'.cell? ⟨pb, po + j * 9 + 2, none⟩ = some (.string vn.l) ∧ w'.cell? ⟨pb, po + j * 9 + 3, none⟩ = some (.string vn.p) ∧ w'.cell? ⟨pb, po + j * 9 + 4, none⟩ = some (.slice vbA vbn vbc) ∧ w'.cell? ⟨pb, po + j * 9 + 5, none⟩ = some (.slice vaA van vac) ∧ w'.cell? ⟨pb, po + j * 9 + 6, none⟩ = some (.string vt) ∧ w'.cell? ⟨pb, po + j * 9 + 7, none⟩ = some (.string vg) ∧ w'.cell? ⟨pb, po + j * 9 + 8, none⟩ = some (.slice vkA vkn vkc) ∧ w'.cell? ⟨qb, qo + j * 9, none⟩ = some (.int .i64 ck) ∧ w'.cell? ⟨qb, qo + j * 9 + 1, none⟩ = some (.string cn.u) ∧ w'.cell? ⟨qb, qo + j * 9 + 2, none⟩ = some (.string cn.l) ∧ w'.cell? ⟨qb, qo + j * 9 + 3, none⟩ = some (.string cn.p) ∧ w'.cell? ⟨qb, qo + j * 9 + 4, none⟩ = some (.slice cbA cbn cbc) ∧ w'.cell? ⟨qb, qo + j * 9 + 5, none⟩ = some (.slice caA can cac) ∧ w'.cell? ⟨qb, qo + j * 9 + 6, none⟩ = some (.string ct) ∧ w'.cell? ⟨qb, qo + j * 9 + 7, none⟩ = some (.string cg) ∧ w'.cell? ⟨qb, qo + j * 9 + 8, none⟩ = some (.slice ckA ckn ckc)) := KA
          clear KA
          go_upto_region 9 with fail
          refine wp_region_held_drew (S := fun w' => w'.cell? ⟨pb, po + j * 9, none⟩ = some (.int .i64 vk) ∧ w'.cell? ⟨pb, po + j * 9 + 1, none⟩ = some (.string vn.u) ∧ w'.cell? ⟨pb, po + j * 9 + 2, none⟩ = some (.string vn.l) ∧ w'.cell? ⟨pb, po + j * 9 + 3, none⟩ = some (.string vn.p) ∧ w'.cell? ⟨pb, po + j * 9 + 4, none⟩ = some (.slice vbA vbn vbc) ∧ w'.cell? ⟨pb, po + j * 9 + 5, none⟩ = some (.slice vaA van vac) ∧ w'.cell? ⟨pb, po + j * 9 + 6, none⟩ = some (.string vt) ∧ w'.cell? ⟨pb, po + j * 9 + 7, none⟩ = some (.string vg) ∧ w'.cell? ⟨pb, po + j * 9 + 8, none⟩ = some (.slice vkA vkn vkc) ∧ w'.cell? ⟨qb, qo + j * 9, none⟩ = some (.int .i64 ck) ∧ w'.cell? ⟨qb, qo + j * 9 + 1, none⟩ = some (.string cn.u) ∧ w'.cell? ⟨qb, qo + j * 9 + 2, none⟩ = some (.string cn.l) ∧ w'.cell? ⟨qb, qo + j * 9 + 3, none⟩ = some (.string cn.p) ∧ w'.cell? ⟨qb, qo + j * 9 + 4, none⟩ = some (.slice cbA cbn cbc) ∧ w'.cell? ⟨qb, qo + j * 9 + 5, none⟩ = some (.slice caA can cac) ∧ w'.cell? ⟨qb, qo + j * 9 + 6, none⟩ = some (.string ct) ∧ w'.cell? ⟨qb, qo + j * 9 + 7, none⟩ = some (.string cg) ∧ w'.cell? ⟨qb, qo + j * 9 + 8, none⟩ = some (.slice ckA ckn ckc)) (by kernel_rfl) (MK.out _ (Kept.refl wr).drew) (fun hHeld => ?_)
          skip
          refine wpAnyH_take (i := 0) (oi := { dst := some 33, op := Op.move (Operand.tmp 3), type := 30, pos := "law.go:98", after := #[], guard := none }) (v := ?vvzc1) rfl (by kernel_rfl) (by kernel_rfl) (by kernel_rfl) (fun _ _ _ h => h) (Or.inl ⟨by rfl, ?hyzc1⟩) (by assumption) ?restzc1
          case hyzc1 => (intro wS hSw; (try dsimp only at hSw); (repeat (obtain ⟨_, hSw⟩ := hSw)); go_simp; try (with_reducible rfl))
          try simp only [Act.put, List.setIfInBounds_toArray, List.set_cons_zero, List.set_cons_succ]
          refine wpAnyH_take (i := 1) (oi := { dst := some 34, op := Op.move (Operand.tmp 5), type := 3, pos := "law.go:98", after := #[], guard := none }) (v := ?vvzc2) rfl (by kernel_rfl) (by kernel_rfl) (by kernel_rfl) (fun _ _ _ h => h) (Or.inl ⟨by rfl, ?hyzc2⟩) (by assumption) ?restzc2
          case hyzc2 => (intro wS hSw; (try dsimp only at hSw); (repeat (obtain ⟨_, hSw⟩ := hSw)); go_simp; try (with_reducible rfl))
          try simp only [Act.put, List.setIfInBounds_toArray, List.set_cons_zero, List.set_cons_succ]
          refine wpAnyH_take (i := 2) (oi := { dst := some 35, op := Op.indexAddr 30 (Operand.tmp 33) (Operand.tmp 34), type := 0, pos := "law.go:98", after := #[{ on := 0, ground := Ground.data }, { on := 1, ground := Ground.data }], guard := none }) (v := ?vvzc3) rfl (by kernel_rfl) (by kernel_rfl) (by kernel_rfl) (fun _ _ _ h => h) (Or.inl ⟨by rfl, ?hyzc3⟩) (by assumption) ?restzc3
          case hyzc3 => (intro wS hSw; (try dsimp only at hSw); (repeat (obtain ⟨_, hSw⟩ := hSw)); go_simp; try (with_reducible rfl))
          try simp only [Act.put, List.setIfInBounds_toArray, List.set_cons_zero, List.set_cons_succ]
          refine wpAnyH_take (i := 3) (oi := { dst := some 36, op := Op.load 36 (Operand.tmp 35), type := 36, pos := "law.go:98", after := #[{ on := 2, ground := Ground.data }], guard := none }) (v := ?vvzc4) rfl (by kernel_rfl) (by kernel_rfl) (by kernel_rfl) (fun _ _ _ h => h) (Or.inl ⟨by rfl, ?hyzc4⟩) (by assumption) ?restzc4
          case hyzc4 => (intro wS hSw; (try dsimp only at hSw); (repeat (obtain ⟨_, hSw⟩ := hSw)); go_simp; try (with_reducible rfl))
          try simp only [Act.put, List.setIfInBounds_toArray, List.set_cons_zero, List.set_cons_succ]
          refine wpAnyH_take (i := 5) (oi := { dst := some 38, op := Op.move (Operand.tmp 4), type := 26, pos := "law.go:98", after := #[], guard := none }) (v := ?vvzc5) rfl (by kernel_rfl) (by kernel_rfl) (by kernel_rfl) (fun _ _ _ h => h) (Or.inl ⟨by rfl, ?hyzc5⟩) (by assumption) ?restzc5
          case hyzc5 => (intro wS hSw; (try dsimp only at hSw); (repeat (obtain ⟨_, hSw⟩ := hSw)); go_simp; try (with_reducible rfl))
          try simp only [Act.put, List.setIfInBounds_toArray, List.set_cons_zero, List.set_cons_succ]
          refine wpAnyH_take (i := 6) (oi := { dst := some 39, op := Op.move (Operand.tmp 5), type := 3, pos := "law.go:98", after := #[], guard := none }) (v := ?vvzc6) rfl (by kernel_rfl) (by kernel_rfl) (by kernel_rfl) (fun _ _ _ h => h) (Or.inl ⟨by rfl, ?hyzc6⟩) (by assumption) ?restzc6
          case hyzc6 => (intro wS hSw; (try dsimp only at hSw); (repeat (obtain ⟨_, hSw⟩ := hSw)); go_simp; try (with_reducible rfl))
          try simp only [Act.put, List.setIfInBounds_toArray, List.set_cons_zero, List.set_cons_succ]
          refine wpAnyH_take (i := 7) (oi := { dst := some 40, op := Op.indexAddr 26 (Operand.tmp 38) (Operand.tmp 39), type := 0, pos := "law.go:98", after := #[{ on := 5, ground := Ground.data }, { on := 6, ground := Ground.data }], guard := none }) (v := ?vvzc7) rfl (by kernel_rfl) (by kernel_rfl) (by kernel_rfl) (fun _ _ _ h => h) (Or.inl ⟨by rfl, ?hyzc7⟩) (by assumption) ?restzc7
          case hyzc7 => (intro wS hSw; (try dsimp only at hSw); (repeat (obtain ⟨_, hSw⟩ := hSw)); go_simp; try (with_reducible rfl))
          try simp only [Act.put, List.setIfInBounds_toArray, List.set_cons_zero, List.set_cons_succ]
          refine wpAnyH_take (i := 8) (oi := { dst := some 41, op := Op.load 28 (Operand.tmp 40), type := 28, pos := "law.go:98", after := #[{ on := 7, ground := Ground.data }], guard := none }) (v := ?vvzc8) rfl (by kernel_rfl) (by kernel_rfl) (by kernel_rfl) (fun _ _ _ h => h) (Or.inl ⟨by rfl, ?hyzc8⟩) (by assumption) ?restzc8
          case hyzc8 => (intro wS hSw; (try dsimp only at hSw); (repeat (obtain ⟨_, hSw⟩ := hSw)); go_simp; try (with_reducible rfl))
          try simp only [Act.put, List.setIfInBounds_toArray, List.set_cons_zero, List.set_cons_succ]
          refine wpAnyH_ready (rs := [4]) (by kernel_rfl) (by simp) ?_
          refine AllReadyH.cons (o := { dst := some 37, op := Op.call { callee := Callee.value (Operand.func 12), args := #[Operand.tmp 36], argTypes := #[36] }, type := 28, pos := "law.go:98", after := #[{ on := 3, ground := Ground.data }], guard := none }) rfl (fun K hK => ?stepzc9) ?morezc9
          case stepzc9 =>
            go_simp
            go_at_call 12
            refine (HPL.out _ (Kept.refl wr).drew).mono ?_
            rintro e wa ⟨uk, un, ubA, ubn, ubc, ubs, uaA, uan, uac, ual, ut, ug, ukA, ukn, ukc, uks, rfl, hu, kw1⟩
            go_wp2_with fail
            refine hK.out _ _ (by first | exact MK.out _ kw2 | exact MK.out _ kw1 | exact MK.out _ (Kept.refl wr).drew) (fun hHeld => ?_)
            clear hK K
            try simp only [Act.put, List.setIfInBounds_toArray, List.set_cons_zero, List.set_cons_succ]
            refine wpAnyH_ready (rs := [9]) (by kernel_rfl) (by simp) ?_
            refine AllReadyH.cons (o := { dst := some 42, op := Op.call { callee := Callee.value (Operand.func 11), args := #[Operand.tmp 37, Operand.tmp 41], argTypes := #[28, 28] }, type := 4, pos := "law.go:98", after := #[{ on := 4, ground := Ground.data }, { on := 8, ground := Ground.data }, { on := 4, ground := Ground.chain }], guard := none }) rfl (fun K hK => ?stepzc10) ?morezc10
            case stepzc10 =>
              go_simp
              go_at_call 11
              refine (HSM.out uk un ubA ubn ubc ubs uaA uan uac ual ut ug ukA ukn ukc uks _ hu kw1).mono ?_
              rintro e wb ⟨rfl, kb⟩
              have kw2 : Kept wr wb := kw1.trans kb
              go_wp2_with fail
              refine hK.out _ _ (by first | exact MK.out _ kw2 | exact MK.out _ kw1 | exact MK.out _ (Kept.refl wr).drew) (fun hHeld => ?_)
              clear hK K
              try simp only [Act.put, List.setIfInBounds_toArray, List.set_cons_zero, List.set_cons_succ]
              refine wpAnyH_take (i := 10) (oi := { dst := some 43, op := Op.unOp UnOp.not 4 (Operand.tmp 42), type := 4, pos := "law.go:98", after := #[{ on := 9, ground := Ground.data }], guard := none }) (v := ?vvzc11) rfl (by kernel_rfl) (by kernel_rfl) (by kernel_rfl) (fun _ _ _ h => h) (Or.inl ⟨by rfl, ?hyzc11⟩) (by assumption) ?restzc11
              case hyzc11 => (intro wS hSw; (try dsimp only at hSw); (repeat (obtain ⟨_, hSw⟩ := hSw)); go_simp; try (with_reducible rfl))
              try simp only [Act.put, List.setIfInBounds_toArray, List.set_cons_zero, List.set_cons_succ]
              refine wpAnyH_take (i := 11) (oi := { dst := some 44, op := Op.move (Operand.tmp 43), type := 4, pos := "law.go:98", after := #[{ on := 10, ground := Ground.data }, { on := 9, ground := Ground.chain }], guard := none }) (v := ?vvzc12) rfl (by kernel_rfl) (by kernel_rfl) (by kernel_rfl) (fun _ _ _ h => h) (Or.inl ⟨by rfl, ?hyzc12⟩) (by assumption) ?restzc12
              case hyzc12 => (intro wS hSw; (try dsimp only at hSw); (repeat (obtain ⟨_, hSw⟩ := hSw)); go_simp; try (with_reducible rfl))
              try simp only [Act.put, List.setIfInBounds_toArray, List.set_cons_zero, List.set_cons_succ]
              refine wpAnyH_take (i := 12) (oi := { dst := some 45, op := Op.move (Operand.tmp 5), type := 3, pos := "law.go:98", after := #[{ on := 11, ground := Ground.guard }], guard := some (11, false) }) (v := ?vvzc13) rfl (by kernel_rfl) (by kernel_rfl) (by kernel_rfl) (fun _ _ _ h => h) (Or.inl ⟨by rfl, ?hyzc13⟩) (by assumption) ?restzc13
              case hyzc13 => (intro wS hSw; (try dsimp only at hSw); (repeat (obtain ⟨_, hSw⟩ := hSw)); go_simp; try (with_reducible rfl))
              try simp only [Act.put, List.setIfInBounds_toArray, List.set_cons_zero, List.set_cons_succ]
              refine wpAnyH_take (i := 13) (oi := { dst := some 46, op := Op.binOp BinOp.gtr 3 (Operand.tmp 45) (Operand.const (Value.int IntKind.i64 0)) 3, type := 4, pos := "law.go:98", after := #[{ on := 12, ground := Ground.data }, { on := 11, ground := Ground.guard }], guard := some (11, false) }) (v := ?vvzc14) rfl (by kernel_rfl) (by kernel_rfl) (by kernel_rfl) (fun _ _ _ h => h) (Or.inl ⟨by rfl, ?hyzc14⟩) (by assumption) ?restzc14
              case hyzc14 => (intro wS hSw; (try dsimp only at hSw); (repeat (obtain ⟨_, hSw⟩ := hSw)); go_simp; try (with_reducible rfl))
              try simp only [Act.put, List.setIfInBounds_toArray, List.set_cons_zero, List.set_cons_succ]
              refine wpAnyH_take (i := 14) (oi := { dst := some 47, op := Op.move (Operand.tmp 46), type := 4, pos := "law.go:98", after := #[{ on := 13, ground := Ground.data }, { on := 11, ground := Ground.chain }, { on := 11, ground := Ground.guard }], guard := some (11, false) }) (v := ?vvzc15) rfl (by kernel_rfl) (by kernel_rfl) (by kernel_rfl) (fun _ _ _ h => h) (Or.inl ⟨by rfl, ?hyzc15⟩) (by assumption) ?restzc15
              case hyzc15 => (intro wS hSw; (try dsimp only at hSw); (repeat (obtain ⟨_, hSw⟩ := hSw)); go_simp; try (with_reducible rfl))
              try simp only [Act.put, List.setIfInBounds_toArray, List.set_cons_zero, List.set_cons_succ]
              refine wpAnyH_take (i := 15) (oi := { dst := some 48, op := Op.move (Operand.tmp 3), type := 30, pos := "law.go:98", after := #[{ on := 14, ground := Ground.guard }], guard := some (14, true) }) (v := ?vvzc16) rfl (by kernel_rfl) (by kernel_rfl) (by kernel_rfl) (fun _ _ _ h => h) (Or.inl ⟨by rfl, ?hyzc16⟩) (by assumption) ?restzc16
              case hyzc16 => (intro wS hSw; (try dsimp only at hSw); (repeat (obtain ⟨_, hSw⟩ := hSw)); go_simp; try (with_reducible rfl))
              try simp only [Act.put, List.setIfInBounds_toArray, List.set_cons_zero, List.set_cons_succ]
              refine wpAnyH_take (i := 16) (oi := { dst := some 49, op := Op.move (Operand.tmp 5), type := 3, pos := "law.go:98", after := #[{ on := 14, ground := Ground.guard }], guard := some (14, true) }) (v := ?vvzc17) rfl (by kernel_rfl) (by kernel_rfl) (by kernel_rfl) (fun _ _ _ h => h) (Or.inl ⟨by rfl, ?hyzc17⟩) (by assumption) ?restzc17
              case hyzc17 => (intro wS hSw; (try dsimp only at hSw); (repeat (obtain ⟨_, hSw⟩ := hSw)); go_simp; try (with_reducible rfl))
              try simp only [Act.put, List.setIfInBounds_toArray, List.set_cons_zero, List.set_cons_succ]
              refine wpAnyH_take (i := 17) (oi := { dst := some 50, op := Op.indexAddr 30 (Operand.tmp 48) (Operand.tmp 49), type := 0, pos := "law.go:98", after := #[{ on := 15, ground := Ground.data }, { on := 16, ground := Ground.data }, { on := 14, ground := Ground.guard }], guard := some (14, true) }) (v := ?vvzc18) rfl (by kernel_rfl) (by kernel_rfl) (by kernel_rfl) (fun _ _ _ h => h) (Or.inl ⟨by rfl, ?hyzc18⟩) (by assumption) ?restzc18
              case hyzc18 => (intro wS hSw; (try dsimp only at hSw); (repeat (obtain ⟨_, hSw⟩ := hSw)); go_simp; try (with_reducible rfl))
              try simp only [Act.put, List.setIfInBounds_toArray, List.set_cons_zero, List.set_cons_succ]
              refine wpAnyH_take (i := 18) (oi := { dst := some 51, op := Op.fieldAddr 36 (Operand.tmp 50) 0, type := 0, pos := "law.go:98", after := #[{ on := 17, ground := Ground.data }, { on := 14, ground := Ground.guard }], guard := some (14, true) }) (v := ?vvzc19) rfl (by kernel_rfl) (by kernel_rfl) (by kernel_rfl) (fun _ _ _ h => h) (Or.inl ⟨by rfl, ?hyzc19⟩) (by assumption) ?restzc19
              case hyzc19 => (intro wS hSw; (try dsimp only at hSw); (repeat (obtain ⟨_, hSw⟩ := hSw)); go_simp; try (with_reducible rfl))
              try simp only [Act.put, List.setIfInBounds_toArray, List.set_cons_zero, List.set_cons_succ]
              refine wpAnyH_take (i := 19) (oi := { dst := some 52, op := Op.load 3 (Operand.tmp 51), type := 3, pos := "law.go:98", after := #[{ on := 18, ground := Ground.data }, { on := 14, ground := Ground.guard }], guard := some (14, true) }) (v := ?vvzc20) rfl (by kernel_rfl) (by kernel_rfl) (by kernel_rfl) (fun _ _ _ h => h) (Or.inl ⟨by rfl, ?hyzc20⟩) (by assumption) ?restzc20
              case hyzc20 => (intro wS hSw; (try dsimp only at hSw); (repeat (obtain ⟨_, hSw⟩ := hSw)); go_simp; try (with_reducible rfl))
              try simp only [Act.put, List.setIfInBounds_toArray, List.set_cons_zero, List.set_cons_succ]
              refine wpAnyH_take (i := 20) (oi := { dst := some 53, op := Op.binOp BinOp.eql 3 (Operand.tmp 52) (Operand.const (Value.int IntKind.i64 3)) 3, type := 4, pos := "law.go:98", after := #[{ on := 19, ground := Ground.data }, { on := 14, ground := Ground.guard }], guard := some (14, true) }) (v := ?vvzc21) rfl (by kernel_rfl) (by kernel_rfl) (by kernel_rfl) (fun _ _ _ h => h) (Or.inl ⟨by rfl, ?hyzc21⟩) (by assumption) ?restzc21
              case hyzc21 => (intro wS hSw; (try dsimp only at hSw); (repeat (obtain ⟨_, hSw⟩ := hSw)); go_simp; try (with_reducible rfl))
              try simp only [Act.put, List.setIfInBounds_toArray, List.set_cons_zero, List.set_cons_succ]
              refine wpAnyH_take (i := 21) (oi := { dst := some 54, op := Op.pick (Operand.tmp 47) (Operand.tmp 53) (Operand.const (Value.bool false)), type := 4, pos := "law.go:98", after := #[{ on := 14, ground := Ground.data }, { on := 20, ground := Ground.data }, { on := 11, ground := Ground.guard }], guard := some (11, false) }) (v := ?vvzc22) rfl (by kernel_rfl) (by kernel_rfl) (by kernel_rfl) (fun _ _ _ h => h) (Or.inl ⟨by rfl, ?hyzc22⟩) (by assumption) ?restzc22
              case hyzc22 => (intro wS hSw; (try dsimp only at hSw); (repeat (obtain ⟨_, hSw⟩ := hSw)); go_simp; try (with_reducible rfl))
              try simp only [Act.put, List.setIfInBounds_toArray, List.set_cons_zero, List.set_cons_succ]
              refine wpAnyH_take (i := 22) (oi := { dst := some 55, op := Op.move (Operand.tmp 54), type := 4, pos := "law.go:98", after := #[{ on := 21, ground := Ground.data }, { on := 14, ground := Ground.chain }, { on := 11, ground := Ground.guard }], guard := some (11, false) }) (v := ?vvzc23) rfl (by kernel_rfl) (by kernel_rfl) (by kernel_rfl) (fun _ _ _ h => h) (Or.inl ⟨by rfl, ?hyzc23⟩) (by assumption) ?restzc23
              case hyzc23 => (intro wS hSw; (try dsimp only at hSw); (repeat (obtain ⟨_, hSw⟩ := hSw)); go_simp; try (with_reducible rfl))
              try simp only [Act.put, List.setIfInBounds_toArray, List.set_cons_zero, List.set_cons_succ]
              refine wpAnyH_take (i := 23) (oi := { dst := some 56, op := Op.move (Operand.tmp 3), type := 30, pos := "law.go:98", after := #[{ on := 22, ground := Ground.guard }], guard := some (22, true) }) (v := undef) rfl (by kernel_rfl) (by kernel_rfl) (by kernel_rfl) (fun _ _ _ h => h) (Or.inr ⟨by rfl, rfl⟩) (by assumption) ?restzc24
              try simp only [Act.put, List.setIfInBounds_toArray, List.set_cons_zero, List.set_cons_succ]
              refine wpAnyH_take (i := 24) (oi := { dst := some 57, op := Op.move (Operand.tmp 5), type := 3, pos := "law.go:98", after := #[{ on := 22, ground := Ground.guard }], guard := some (22, true) }) (v := undef) rfl (by kernel_rfl) (by kernel_rfl) (by kernel_rfl) (fun _ _ _ h => h) (Or.inr ⟨by rfl, rfl⟩) (by assumption) ?restzc25
              try simp only [Act.put, List.setIfInBounds_toArray, List.set_cons_zero, List.set_cons_succ]
              refine wpAnyH_take (i := 25) (oi := { dst := some 58, op := Op.binOp BinOp.sub 3 (Operand.tmp 57) (Operand.const (Value.int IntKind.i64 1)) 3, type := 3, pos := "law.go:98", after := #[{ on := 24, ground := Ground.data }, { on := 22, ground := Ground.guard }], guard := some (22, true) }) (v := undef) rfl (by kernel_rfl) (by kernel_rfl) (by kernel_rfl) (fun _ _ _ h => h) (Or.inr ⟨by rfl, rfl⟩) (by assumption) ?restzc26
              try simp only [Act.put, List.setIfInBounds_toArray, List.set_cons_zero, List.set_cons_succ]
              refine wpAnyH_take (i := 26) (oi := { dst := some 59, op := Op.indexAddr 30 (Operand.tmp 56) (Operand.tmp 58), type := 0, pos := "law.go:98", after := #[{ on := 23, ground := Ground.data }, { on := 25, ground := Ground.data }, { on := 22, ground := Ground.guard }], guard := some (22, true) }) (v := undef) rfl (by kernel_rfl) (by kernel_rfl) (by kernel_rfl) (fun _ _ _ h => h) (Or.inr ⟨by rfl, rfl⟩) (by assumption) ?restzc27
              try simp only [Act.put, List.setIfInBounds_toArray, List.set_cons_zero, List.set_cons_succ]
              refine wpAnyH_take (i := 27) (oi := { dst := some 60, op := Op.fieldAddr 36 (Operand.tmp 59) 0, type := 0, pos := "law.go:98", after := #[{ on := 26, ground := Ground.data }, { on := 22, ground := Ground.guard }], guard := some (22, true) }) (v := undef) rfl (by kernel_rfl) (by kernel_rfl) (by kernel_rfl) (fun _ _ _ h => h) (Or.inr ⟨by rfl, rfl⟩) (by assumption) ?restzc28
              try simp only [Act.put, List.setIfInBounds_toArray, List.set_cons_zero, List.set_cons_succ]
              refine wpAnyH_take (i := 28) (oi := { dst := some 61, op := Op.load 3 (Operand.tmp 60), type := 3, pos := "law.go:98", after := #[{ on := 27, ground := Ground.data }, { on := 22, ground := Ground.guard }], guard := some (22, true) }) (v := undef) rfl (by kernel_rfl) (by kernel_rfl) (by kernel_rfl) (fun _ _ _ h => h) (Or.inr ⟨by rfl, rfl⟩) (by assumption) ?restzc29
              try simp only [Act.put, List.setIfInBounds_toArray, List.set_cons_zero, List.set_cons_succ]
              refine wpAnyH_take (i := 29) (oi := { dst := some 62, op := Op.binOp BinOp.eql 3 (Operand.tmp 61) (Operand.const (Value.int IntKind.i64 3)) 3, type := 4, pos := "law.go:98", after := #[{ on := 28, ground := Ground.data }, { on := 22, ground := Ground.guard }], guard := some (22, true) }) (v := undef) rfl (by kernel_rfl) (by kernel_rfl) (by kernel_rfl) (fun _ _ _ h => h) (Or.inr ⟨by rfl, rfl⟩) (by assumption) ?restzc30
              try simp only [Act.put, List.setIfInBounds_toArray, List.set_cons_zero, List.set_cons_succ]
              refine wpAnyH_take (i := 30) (oi := { dst := some 63, op := Op.pick (Operand.tmp 55) (Operand.tmp 62) (Operand.const (Value.bool false)), type := 4, pos := "law.go:98", after := #[{ on := 22, ground := Ground.data }, { on := 29, ground := Ground.data }, { on := 11, ground := Ground.guard }], guard := some (11, false) }) (v := ?vvzc31) rfl (by kernel_rfl) (by kernel_rfl) (by kernel_rfl) (fun _ _ _ h => h) (Or.inl ⟨by rfl, ?hyzc31⟩) (by assumption) ?restzc31
              case hyzc31 => (intro wS hSw; (try dsimp only at hSw); (repeat (obtain ⟨_, hSw⟩ := hSw)); go_simp; try (with_reducible rfl))
              try simp only [Act.put, List.setIfInBounds_toArray, List.set_cons_zero, List.set_cons_succ]
              refine wpAnyH_take (i := 31) (oi := { dst := some 64, op := Op.pick (Operand.tmp 44) (Operand.const (Value.bool true)) (Operand.tmp 63), type := 4, pos := "law.go:98", after := #[{ on := 11, ground := Ground.data }, { on := 30, ground := Ground.data }], guard := none }) (v := ?vvzc32) rfl (by kernel_rfl) (by kernel_rfl) (by kernel_rfl) (fun _ _ _ h => h) (Or.inl ⟨by rfl, ?hyzc32⟩) (by assumption) ?restzc32
              case hyzc32 => (intro wS hSw; (try dsimp only at hSw); (repeat (obtain ⟨_, hSw⟩ := hSw)); go_simp; try (with_reducible rfl))
              try simp only [Act.put, List.setIfInBounds_toArray, List.set_cons_zero, List.set_cons_succ]
              refine wpAnyH_done (by kernel_rfl) ?_ _
              go_wp2_with fail
              go_roundw
              case rel => exact ⟨j + 1, hlt, by go_num, hkept.trans kw2⟩
              case measure =>
                simp [intOf]
                omega
            exact AllReadyH.nil
          exact AllReadyH.nil
    · obtain rfl : j = m3 := by omega
      have b8 := b7.kept hkept
      have zok8 := HZ7.out.kept hkept
      obtain ⟨NN, hNN⟩ : ∃ NN : Int, NN = (countT X : Nat) := ⟨_, rfl⟩
      have hcb : countT X ≤ 1000000 := by
        have := HN.out
        omega
      have hZs : Small (Nd.mk zk zn zbA zbn zbc zbs zaA zan zac zal zt zg zkA zkn zkc zks).tr := by
        rw [HZX.out]
        exact HS.out
      have MK : Hid (∀ w', Kept wr w' → w'.cell? ⟨g1, 0, none⟩ = some (.int .i64 zk) ∧ w'.cell? ⟨g1, 1, none⟩ = some (.string zn.u) ∧ w'.cell? ⟨g1, 2, none⟩ = some (.string zn.l) ∧ w'.cell? ⟨g1, 3, none⟩ = some (.string zn.p) ∧ w'.cell? ⟨g1, 4, none⟩ = some (.slice zbA zbn zbc) ∧ w'.cell? ⟨g1, 5, none⟩ = some (.slice zaA zan zac) ∧ w'.cell? ⟨g1, 6, none⟩ = some (.string zt) ∧ w'.cell? ⟨g1, 7, none⟩ = some (.string zg) ∧ w'.cell? ⟨g1, 8, none⟩ = some (.slice zkA zkn zkc)) :=
        fun w' kk => by
          have bb := (b8.kept kk).cell
          exact ⟨bb 0, bb 1, bb 2, bb 3, bb 4, bb 5, bb 6, bb 7, bb 8⟩
      have HOL : Hid (∀ w', Kept wr w' → Calls Try.prog 9 #[.agg #[.int .i64 zk, .string zn.u, .string zn.l, .string zn.p, .slice zbA zbn zbc, .slice zaA zan zac, .string zt, .string zg, .slice zkA zkn zkc]] w' fun e w'' =>
          ∃ uk un ubA ubn ubc ubs uaA uan uac ual ut ug ukA ukn ukc uks, e = .returned (.agg #[.int .i64 uk, .string (Nm.u un), .string (Nm.l un), .string (Nm.p un), .slice ubA ubn ubc, .slice uaA uan uac, .string ut, .string ug, .slice ukA ukn ukc]) ∧ Hid ((Nd.mk uk un ubA ubn ubc ubs uaA uan uac ual ut ug ukA ukn ukc uks).ok w'' ∧ (Nd.mk uk un ubA ubn ubc ubs uaA uan uac ual ut ug ukA ukn ukc uks).tr = X) ∧ Kept wr w'') := by
        intro w' kk
        refine (ours_any (Nd.mk zk zn zbA zbn zbc zbs zaA zan zac zal zt zg zkA zkn zkc zks) w' (zok8.kept kk) hZs).mono ?_
        rintro e w2 ⟨⟨uk, un, ubA, ubn, ubc, ubs, uaA, uan, uac, ual, ut, ug, ukA, ukn, ukc, uks⟩, rfl, h1, h2, _, h3⟩
        exact ⟨uk, un, ubA, ubn, ubc, ubs, uaA, uan, uac, ual, ut, ug, ukA, ukn, ukc, uks, rfl, ⟨h1, h2.trans HZX.out⟩, kk.trans h3⟩
      have HCN : Hid (∀ uk un ubA ubn ubc ubs uaA uan uac ual ut ug ukA ukn ukc uks (w' : World), Hid ((Nd.mk uk un ubA ubn ubc ubs uaA uan uac ual ut ug ukA ukn ukc uks).ok w' ∧ (Nd.mk uk un ubA ubn ubc ubs uaA uan uac ual ut ug ukA ukn ukc uks).tr = X) → Calls Try.prog 13 #[.agg #[.int .i64 uk, .string un.u, .string un.l, .string un.p, .slice ubA ubn ubc, .slice uaA uan uac, .string ut, .string ug, .slice ukA ukn ukc]] w' fun e w'' => e = .returned (.int .i64 NN) ∧ Kept w' w'') := by
        intro uk un ubA ubn ubc ubs uaA uan uac ual ut ug ukA ukn ukc uks w' hu
        have h1 := count_any (Nd.mk uk un ubA ubn ubc ubs uaA uan uac ual ut ug ukA ukn ukc uks) w' hu.out.1 (by rw [hu.out.2]; exact hcb)
        rw [hu.out.2, ← hNN] at h1
        exact h1
      have HRC : Hid (∀ w' : World, Kept wr w' → Calls Try.prog 14 #[.agg #[.int .i64 zk, .string zn.u, .string zn.l, .string zn.p, .slice zbA zbn zbc, .slice zaA zan zac, .string zt, .string zg, .slice zkA zkn zkc]] w' fun e w'' => e = .returned (.int .i64 NN) ∧ Kept w' w'') := by
        intro w' kk
        have h1 := rcount_any (Nd.mk zk zn zbA zbn zbc zbs zaA zan zac zal zt zg zkA zkn zkc zks) w' (zok8.kept kk) (by rw [HZX.out]; exact hcb)
        rw [HZX.out, ← hNN] at h1
        exact h1
      clear hNN hcb hZs zok8
      go_upto_region 12 with fail
      go_region_held3 (fun w' => w'.cell? ⟨g1, 0, none⟩ = some (.int .i64 zk) ∧ w'.cell? ⟨g1, 1, none⟩ = some (.string zn.u) ∧ w'.cell? ⟨g1, 2, none⟩ = some (.string zn.l) ∧ w'.cell? ⟨g1, 3, none⟩ = some (.string zn.p) ∧ w'.cell? ⟨g1, 4, none⟩ = some (.slice zbA zbn zbc) ∧ w'.cell? ⟨g1, 5, none⟩ = some (.slice zaA zan zac) ∧ w'.cell? ⟨g1, 6, none⟩ = some (.string zt) ∧ w'.cell? ⟨g1, 7, none⟩ = some (.string zg) ∧ w'.cell? ⟨g1, 8, none⟩ = some (.slice zkA zkn zkc))
        (first | exact MK.out _ kw4 | exact MK.out _ kw3 | exact MK.out _ kw2 | exact MK.out _ kw1 | exact MK.out _ (Kept.refl wr).drew)
        (first
        | (go_at_call 9; refine (HOL.out _ (Kept.refl wr).drew).mono ?_; rintro e wa ⟨uk, un, ubA, ubn, ubc, ubs, uaA, uan, uac, ual, ut, ug, ukA, ukn, ukc, uks, rfl, hu, kw1⟩)
        | (go_at_call 13; refine (HCN.out uk un ubA ubn ubc ubs uaA uan uac ual ut ug ukA ukn ukc uks _ hu).mono ?_; rintro e wb ⟨rfl, kb⟩; have kw2 : Kept wr wb := kw1.trans kb)
        | (go_at_call 14; refine (HRC.out _ kw2).mono ?_; rintro e wc2 ⟨rfl, kc2⟩; have kw3 : Kept wr wc2 := kw2.trans kc2)
        | (go_at_call 15; refine (infAwake_any _).mono ?_; rintro e wd ⟨rfl, kd⟩; have kw4 : Kept wr wd := kw3.trans kd))
      all_goals
        go_wp2_with fail
        go_ret
        exact ⟨rfl, (K7.trans hkept).trans kw4⟩
end Go.Proofs.Ytnlncamiaddhfaa
