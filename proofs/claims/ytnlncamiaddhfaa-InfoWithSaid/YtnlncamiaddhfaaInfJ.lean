/- The law InfoWith, walked. Printed by gen_infj.py. -/
import Derived.Test.YtnlncamiaddhfaaInfI
namespace Go.Proofs.Ytnlncamiaddhfaa
open Go.RowKit
attribute [local go_sem ↓] Go.wp_at_zero Go.wp_at_succ

theorem tl_take {L : List Tr} {j : Nat} {y : Tr} (h : L[j]? = some y) (hj : j < 4) : ((L.take 4).map (cutT 2)).take (j + 1) = ((L.take 4).map (cutT 2)).take j ++ [cutT 2 y] := by
  have h1 : ((L.take 4).map (cutT 2))[j]? = some (cutT 2 y) := by
    rw [List.getElem?_map, List.getElem?_take, if_pos hj, h]
    rfl
  rw [List.take_add_one, h1]
  rfl
theorem tl_all {L : List Tr} {j : Nat} (hj : 4 ≤ j ∨ L.length ≤ j) : ((L.take 4).map (cutT 2)).take j = (L.take 4).map (cutT 2) := by
  rw [List.take_of_length_le]
  rw [List.length_map, List.length_take]
  omega
theorem mem_tr {O : List Nd} {S : List Tr} {P : Tr → Prop} (h : O.map Nd.tr = S) (hP : ∀ y ∈ S, P y) : ∀ x ∈ O, P x.tr := fun _ hx => hP _ (h ▸ List.mem_map_of_mem hx)
set_option maxRecDepth 100000 in
set_option maxHeartbeats 8000000 in
theorem infoWith_any (x : Nd) (LA : Option Addr) (ln lc : Nat) (L : List Nd) (PA : Option Addr) (pn pc : Nat) (ps : List Int) (w : World) (hok : x.ok w) (htx : Txts 140737488355328 x.tr) (hL : Nds w LA ln lc L) (hLt : ∀ y ∈ L, Txts 140737488355328 y.tr) (hp : Sl w 1 PA pn pc (ps.map (Value.int .i64))) (hpb : ∀ z ∈ ps, -9223372036854775808 ≤ z ∧ z ≤ 9223372036854775807) :
    Calls Try.prog 5 #[x.val, .slice LA ln lc, .slice PA pn pc] w fun e w' => e = .returned (.bool true) ∧ Kept w w' := by
  have H5 := Lib.hid (cut_five 4 x.tr)
  have HTX := Lib.hid (cut_txts 4 htx)
  obtain ⟨TL, hTL⟩ : ∃ TL, ((L.map Nd.tr).take 4).map (cutT 2) = TL := ⟨_, rfl⟩
  have hTs : ∀ y ∈ TL, Small y := by
    intro y hy
    rw [← hTL] at hy
    obtain ⟨z, _, rfl⟩ := List.mem_map.1 hy
    exact cut_small 2 z
  have hTx : ∀ y ∈ TL, Txts 140737488355328 y := by
    intro y hy
    rw [← hTL] at hy
    obtain ⟨z, hz, rfl⟩ := List.mem_map.1 hy
    obtain ⟨u, hu, rfl⟩ := List.mem_map.1 (List.mem_of_mem_take hz)
    exact cut_txts 2 (hLt u hu)
  have hTn : TL.length ≤ 4 := by
    rw [← hTL, List.length_map, List.length_take]
    omega
  have HTL := Lib.hid hTL
  have HTT := Lib.hid (show _ ∧ _ ∧ _ from ⟨hTs, hTx, hTn⟩)
  have hLlen := hL.len
  have HLL := Lib.hid hLlen
  have lcap := hL.1.cap
  have lmax := hL.1.max
  have HLK := Lib.hid (fun y hy => show y.ok w ∧ y.out (fun b => b < w.heap.size) from ⟨hL.2 y hy, (hL.2 y hy).lt⟩)
  clear hTs hTx hTn hTL hLlen htx hLt
  have HC := Lib.hid (fun w' (kk : Kept w w') => cut_any x 4 w' w.heap.size (by omega) (hok.kept kk) hok.lt kk.size)
  have hS := cut_small 4 x.tr
  obtain ⟨X, hX⟩ : ∃ X, cutT 4 x.tr = X := ⟨_, rfl⟩
  rw [hX] at hS
  have HS := Lib.hid hS
  have HX := Lib.hid hX
  rw [hX] at H5 HTX
  obtain ⟨AO, hAO⟩ : ∃ AO, withT X TL (ps.take 5) = AO := ⟨_, rfl⟩
  have HAO := Lib.hid hAO
  have HPB := Lib.hid (show ∀ z ∈ ps.take 5, -9223372036854775808 ≤ z ∧ z ≤ 9223372036854775807 from fun z hz => hpb z (List.mem_of_mem_take hz))
  have HSH := Lib.hid (fun w' (kk : Kept w w') => short_any PA pn pc ps w' (hp.kept kk))
  clear hok hS hX hpb hAO
  obtain ⟨k, n, bA, bn, bc, bs, aA, an, ac, al, t, g, kA, kn, kc, ks⟩ := x
  have HC2 : Hid (∀ w', Kept w w' → Calls Try.prog 7 #[.agg #[.int .i64 k, .string n.u, .string n.l, .string n.p, .slice bA bn bc, .slice aA an ac, .string t, .string g, .slice kA kn kc], .int .i64 4] w' fun e w'' =>
      ∃ zk zn zbA zbn zbc zbs zaA zan zac zal zt zg zkA zkn zkc zks, e = .returned (.agg #[.int .i64 zk, .string (Nm.u zn), .string (Nm.l zn), .string (Nm.p zn), .slice zbA zbn zbc, .slice zaA zan zac, .string zt, .string zg, .slice zkA zkn zkc]) ∧
        Hid ((Nd.mk zk zn zbA zbn zbc zbs zaA zan zac zal zt zg zkA zkn zkc zks).ok w'' ∧ (Nd.mk zk zn zbA zbn zbc zbs zaA zan zac zal zt zg zkA zkn zkc zks).tr = X ∧ (Nd.mk zk zn zbA zbn zbc zbs zaA zan zac zal zt zg zkA zkn zkc zks).out (fun b => b < w.heap.size ∨ w'.heap.size ≤ b)) ∧ Kept w' w'') := by
    intro w' kk
    refine (HC.out w' kk).mono ?_
    rintro e w2 ⟨⟨zk, zn, zbA, zbn, zbc, zbs, zaA, zan, zac, zal, zt, zg, zkA, zkn, zkc, zks⟩, rfl, h1, h2, h4, h3⟩
    exact ⟨zk, zn, zbA, zbn, zbc, zbs, zaA, zan, zac, zal, zt, zg, zkA, zkn, zkc, zks, rfl, ⟨h1, h2.trans HX.out, h4⟩, h3⟩
  clear HC
  show Calls Try.prog 5 #[.agg #[.int .i64 k, .string n.u, .string n.l, .string n.p, .slice bA bn bc, .slice aA an ac, .string t, .string g, .slice kA kn kc], .slice LA ln lc, .slice PA pn pc] w _
  have k1 := (Kept.refl w).alloc (.cells (ndc k n bA bn bc aA an ac t g kA kn kc) 28)
  have b1 := Blk.new w (ndc k n bA bn bc aA an ac t g kA kn kc) 28
  go_enter Try.func5, Try.ntmps5
  go_wp2_with fail
  refine (HC2.out _ k1).mono ?_
  rintro e w2 ⟨zk, zn, zbA, zbn, zbc, zbs, zaA, zan, zac, zal, zt, zg, zkA, zkn, zkc, zks, rfl, hz, k2⟩
  have b2 := b1.kept k2
  have K2 := k1.trans k2
  go_wp2_with fail
  refine (HSH.out _ K2).mono ?_
  rintro e w2' ⟨pn', rfl, HP, hpn, rfl⟩
  have c0 : w2.cell? ⟨w.heap.size, 0, none⟩ = some (.int .i64 k) := b2.cell 0
  have c1 : w2.cell? ⟨w.heap.size, 1, none⟩ = some (.string n.u) := b2.cell 1
  have c2 : w2.cell? ⟨w.heap.size, 2, none⟩ = some (.string n.l) := b2.cell 2
  have c3 : w2.cell? ⟨w.heap.size, 3, none⟩ = some (.string n.p) := b2.cell 3
  have c4 : w2.cell? ⟨w.heap.size, 4, none⟩ = some (.slice bA bn bc) := b2.cell 4
  have c5 : w2.cell? ⟨w.heap.size, 5, none⟩ = some (.slice aA an ac) := b2.cell 5
  have c6 : w2.cell? ⟨w.heap.size, 6, none⟩ = some (.string t) := b2.cell 6
  have c7 : w2.cell? ⟨w.heap.size, 7, none⟩ = some (.string g) := b2.cell 7
  have c8 : w2.cell? ⟨w.heap.size, 8, none⟩ = some (.slice kA kn kc) := b2.cell 8
  have cf := b2.frozen
  have cl := b2.lt
  go_upto_region 2 with fail
  have b3 := blk_setB9 b2 (.int .i64 zk) (.string zn.u) (.string zn.l) (.string zn.p) (.slice zbA zbn zbc) (.slice zaA zan zac) (.string zt) (.string zg) (.slice zkA zkn zkc)
  have k3 := kept_setB9 (k1.trans k2) (Nat.le_refl _) (.int .i64 zk) (.string zn.u) (.string zn.l) (.string zn.p) (.slice zbA zbn zbc) (.slice zaA zan zac) (.string zt) (.string zg) (.slice zkA zkn zkc)
  have g3 := grown_setB9 w2 w.heap.size (.int .i64 zk) (.string zn.u) (.string zn.l) (.string zn.p) (.slice zbA zbn zbc) (.slice zaA zan zac) (.string zt) (.string zg) (.slice zkA zkn zkc)
  have zok := hz.out.1.grown g3 (hz.out.2.2.mono (fun b hb => by
    intro e
    injection e with e
    have hb' : b < w.heap.size ∨ w.heap.size + 1 ≤ b := by simpa using hb
    omega))
  have hp3 := (HP _ hp).kept k3
  change Code.wp _ _ _ _ (setB9 w2 w.heap.size (.int .i64 zk) (.string zn.u) (.string zn.l) (.string zn.p) (.slice zbA zbn zbc) (.slice zaA zan zac) (.string zt) (.string zg) (.slice zkA zkn zkc))
  generalize setB9 w2 w.heap.size (.int .i64 zk) (.string zn.u) (.string zn.l) (.string zn.p) (.slice zbA zbn zbc) (.slice zaA zan zac) (.string zt) (.string zg) (.slice zkA zkn zkc) = w3 at b3 k3 zok hp3 ⊢
  have hZX := hz.out.2.1
  obtain ⟨g1, hg1⟩ : ∃ g1, w.heap.size = g1 := ⟨_, rfl⟩
  rw [hg1] at b3 ⊢
  clear c0 c1 c2 c3 c4 c5 c6 c7 c8 cf cl b2 b1 k1 k2 K2 g3 hg1 HC2 HX hz hp HP HSH
  have HZX := Lib.hid hZX
  have hl3 := hL.kept k3
  clear hZX hL
  have HCY := Lib.hid (fun (y : Nd) (hy : y ∈ L) w' (kk : Kept w w') => cut_any y 2 w' w.heap.size (by omega) ((HLK.out y hy).1.kept kk) (HLK.out y hy).2 kk.size)
  have hk3s := k3.size
  go_wp2_with fail
  go_loopw [7, 8, 21] (fun v7 v8 i wr => ∃ (j m : Nat) (O8 O7 : List Nd), j ≤ ln ∧ i = .int .i64 j ∧ m ≤ 4 ∧ m ≤ j ∧ Duo w3 wr w.heap.size 28 36 v8 v7 m m O8 O7 ∧ Hid (O8.map Nd.tr = TL.take j ∧ O7.map Nd.tr = TL.take j)) (fun _ _ i _ => ln - (intOf i).toNat)
  case atStart => exact ⟨0, 0, [], [], Nat.zero_le _, rfl, by omega, Nat.le_refl _, Duo.start (Kept.refl w3), by unfold Hid; simp⟩
  case round =>
    obtain ⟨j, m, O8, O7, hj, rfl, hm4, hmj, hD, HI⟩ := hrel
    by_cases hlt : j < ln
    · obtain ⟨yb, yo, yk, yn, ybA, ybn, ybc, ybs, yaA, yan, yac, yal, yt, yg, ykA, ykn, ykc, yks, rfl, hy, y0, y1, y2, y3, y4, y5, y6, y7, y8, hyb⟩ := cells9 ((hl3.kept hD.k).1) hlt
      have HY := Lib.hid (HCY.out _ (List.mem_of_getElem? hy))
      have hyt := map_get (f := Nd.tr) hy
      have kx := (Kept.refl wr).alloc (.cells (ndc yk yn ybA ybn ybc yaA yan yac yt yg ykA ykn ykc) 28)
      have bx := Blk.new wr (ndc yk yn ybA ybn ybc yaA yan yac yt yg ykA ykn ykc) 28
      by_cases hj4 : j < 4
      · have l1 : (j : Int) < 4 := by omega
        have htl := tl_take hyt hj4
        rw [HTL.out] at htl
        have HTK := Lib.hid htl
        clear htl hyt hy
        have HCC : Hid (∀ w', Kept w w' → Calls Try.prog 7 #[.agg #[.int .i64 yk, .string yn.u, .string yn.l, .string yn.p, .slice ybA ybn ybc, .slice yaA yan yac, .string yt, .string yg, .slice ykA ykn ykc], .int .i64 2] w' fun e w'' => ∃ zk zn zbA zbn zbc zbs zaA zan zac zal zt zg zkA zkn zkc zks, e = .returned (.agg #[.int .i64 zk, .string (Nm.u zn), .string (Nm.l zn), .string (Nm.p zn), .slice zbA zbn zbc, .slice zaA zan zac, .string zt, .string zg, .slice zkA zkn zkc]) ∧ Hid ((Nd.mk zk zn zbA zbn zbc zbs zaA zan zac zal zt zg zkA zkn zkc zks).ok w'' ∧ (Nd.mk zk zn zbA zbn zbc zbs zaA zan zac zal zt zg zkA zkn zkc zks).tr = cutT 2 (Nd.mk yk yn ybA ybn ybc ybs yaA yan yac yal yt yg ykA ykn ykc yks).tr ∧ (Nd.mk zk zn zbA zbn zbc zbs zaA zan zac zal zt zg zkA zkn zkc zks).out (fun b => b < w.heap.size ∨ w'.heap.size ≤ b)) ∧ Kept w' w'') := by
          intro w' kk
          refine (HY.out w' kk).mono ?_
          rintro e w2 ⟨⟨zk, zn, zbA, zbn, zbc, zbs, zaA, zan, zac, zal, zt, zg, zkA, zkn, zkc, zks⟩, rfl, h1, h2, h4, h3⟩
          exact ⟨zk, zn, zbA, zbn, zbc, zbs, zaA, zan, zac, zal, zt, zg, zkA, zkn, zkc, zks, rfl, ⟨h1, h2, h4⟩, h3⟩
        have D1 := hD.kept kx
        have KW1 : Kept w (wr.alloc (.cells (ndc yk yn ybA ybn ybc yaA yan yac yt yg ykA ykn ykc) 28)) := k3.trans D1.k
        go_upto_region 8 with fail
        change Code.wp _ _ _ _ (wr.alloc (.cells (ndc yk yn ybA ybn ybc yaA yan yac yt yg ykA ykn ykc) 28))
        generalize wr.alloc (.cells (ndc yk yn ybA ybn ybc yaA yan yac yt yg ykA ykn ykc) 28) = wa at D1 KW1 bx kx ⊢
        have hbx := fun g e => (hD.o8.lt g e).2
        obtain ⟨gx, hgx⟩ : ∃ gx, wr.heap.size = gx := ⟨_, rfl⟩
        rw [hgx] at bx hbx ⊢
        clear hgx y0 y1 y2 y3 y4 y5 y6 y7 y8
        have c0 : wa.cell? ⟨gx, 0, none⟩ = some (.int .i64 yk) := bx.cell 0
        have c1 : wa.cell? ⟨gx, 1, none⟩ = some (.string yn.u) := bx.cell 1
        have c2 : wa.cell? ⟨gx, 2, none⟩ = some (.string yn.l) := bx.cell 2
        have c3 : wa.cell? ⟨gx, 3, none⟩ = some (.string yn.p) := bx.cell 3
        have c4 : wa.cell? ⟨gx, 4, none⟩ = some (.slice ybA ybn ybc) := bx.cell 4
        have c5 : wa.cell? ⟨gx, 5, none⟩ = some (.slice yaA yan yac) := bx.cell 5
        have c6 : wa.cell? ⟨gx, 6, none⟩ = some (.string yt) := bx.cell 6
        have c7 : wa.cell? ⟨gx, 7, none⟩ = some (.string yg) := bx.cell 7
        have c8 : wa.cell? ⟨gx, 8, none⟩ = some (.slice ykA ykn ykc) := bx.cell 8
        have gxl := bx.lt
        go_wp2_with fail
        refine (HCC.out _ KW1).mono ?_
        rintro e wb ⟨zk, zn, zbA, zbn, zbc, zbs, zaA, zan, zac, zal, zt, zg, zkA, zkn, zkc, zks, rfl, hz, kb⟩
        have Db := D1.kept kb
        have bb := bx.kept kb
        have gbl := bb.lt
        have hob8 := Db.o8
        have hkb := Db.k
        have hsz1 := hkb.size
        clear c0 c1 c2 c3 c4 c5 c6 c7 c8
        go_upto_region 9 with (at_builtin; refine wpList_push w3 (by rfl) _ _ (by rfl) appT_rnd (by rfl) hob8 hkb (by rfl) ?_ ?_; (exact ⟨by simp, rfl, rfl, by omega⟩); intro v8' wd hown8 hkd hgrd hobd)
        have Dd := Db.push (y := (Nd.mk zk zn zbA zbn zbc zbs zaA zan zac zal zt zg zkA zkn zkc zks)) (wc := wa) hk3s hz.out.1 hz.out.2.2 D1 hown8 hkd hgrd hobd
        have bd : Blk wd gx (ndc yk yn ybA ybn ybc yaA yan yac yt yg ykA ykn ykc) 28 := Blk.grown (bb.alloc _) hgrd (by
          intro h'
          have := hbx gx h'.symm
          omega)
        have KWd : Kept w wd := k3.trans hkd
        clear hob8 hkb hown8 hkd hgrd hobd Db bb D1 bx kx
        have c0 : wd.cell? ⟨gx, 0, none⟩ = some (.int .i64 yk) := bd.cell 0
        have c1 : wd.cell? ⟨gx, 1, none⟩ = some (.string yn.u) := bd.cell 1
        have c2 : wd.cell? ⟨gx, 2, none⟩ = some (.string yn.l) := bd.cell 2
        have c3 : wd.cell? ⟨gx, 3, none⟩ = some (.string yn.p) := bd.cell 3
        have c4 : wd.cell? ⟨gx, 4, none⟩ = some (.slice ybA ybn ybc) := bd.cell 4
        have c5 : wd.cell? ⟨gx, 5, none⟩ = some (.slice yaA yan yac) := bd.cell 5
        have c6 : wd.cell? ⟨gx, 6, none⟩ = some (.string yt) := bd.cell 6
        have c7 : wd.cell? ⟨gx, 7, none⟩ = some (.string yg) := bd.cell 7
        have c8 : wd.cell? ⟨gx, 8, none⟩ = some (.slice ykA ykn ykc) := bd.cell 8
        have gdl := bd.lt
        have HCC2 : Hid (∀ w', Kept w w' → Calls Try.prog 7 #[.agg #[.int .i64 yk, .string yn.u, .string yn.l, .string yn.p, .slice ybA ybn ybc, .slice yaA yan yac, .string yt, .string yg, .slice ykA ykn ykc], .int .i64 2] w' fun e w'' => ∃ uk un ubA ubn ubc ubs uaA uan uac ual ut ug ukA ukn ukc uks, e = .returned (.agg #[.int .i64 uk, .string (Nm.u un), .string (Nm.l un), .string (Nm.p un), .slice ubA ubn ubc, .slice uaA uan uac, .string ut, .string ug, .slice ukA ukn ukc]) ∧ Hid ((Nd.mk uk un ubA ubn ubc ubs uaA uan uac ual ut ug ukA ukn ukc uks).ok w'' ∧ (Nd.mk uk un ubA ubn ubc ubs uaA uan uac ual ut ug ukA ukn ukc uks).tr = cutT 2 (Nd.mk yk yn ybA ybn ybc ybs yaA yan yac yal yt yg ykA ykn ykc yks).tr) ∧ Kept w' w'') := by
          intro w' kk
          refine (HCC.out w' kk).mono ?_
          rintro e w2 ⟨uk, un, ubA, ubn, ubc, ubs, uaA, uan, uac, ual, ut, ug, ukA, ukn, ukc, uks, rfl, h1, h3⟩
          exact ⟨uk, un, ubA, ubn, ubc, ubs, uaA, uan, uac, ual, ut, ug, ukA, ukn, ukc, uks, rfl, ⟨h1.out.1, h1.out.2.1⟩, h3⟩
        go_wp2_with fail
        refine (HCC2.out _ KWd).mono ?_
        rintro e we ⟨uk, un, ubA, ubn, ubc, ubs, uaA, uan, uac, ual, ut, ug, ukA, ukn, ukc, uks, rfl, hu, ke⟩
        have De := Dd.kept ke
        have HOU : Hid (Calls Try.prog 9 #[.agg #[.int .i64 uk, .string un.u, .string un.l, .string un.p, .slice ubA ubn ubc, .slice uaA uan uac, .string ut, .string ug, .slice ukA ukn ukc]] we fun e w'' => ∃ vk vn vbA vbn vbc vbs vaA van vac val vt vg vkA vkn vkc vks, e = .returned (.agg #[.int .i64 vk, .string (Nm.u vn), .string (Nm.l vn), .string (Nm.p vn), .slice vbA vbn vbc, .slice vaA van vac, .string vt, .string vg, .slice vkA vkn vkc]) ∧ Hid ((Nd.mk vk vn vbA vbn vbc vbs vaA van vac val vt vg vkA vkn vkc vks).ok w'' ∧ (Nd.mk vk vn vbA vbn vbc vbs vaA van vac val vt vg vkA vkn vkc vks).tr = cutT 2 (Nd.mk yk yn ybA ybn ybc ybs yaA yan yac yal yt yg ykA ykn ykc yks).tr ∧ (Nd.mk vk vn vbA vbn vbc vbs vaA van vac val vt vg vkA vkn vkc vks).out (fun b => b < w.heap.size ∨ we.heap.size ≤ b)) ∧ Kept we w'') := by
          refine (ours_any (Nd.mk uk un ubA ubn ubc ubs uaA uan uac ual ut ug ukA ukn ukc uks) we hu.out.1 (by rw [hu.out.2]; exact cut_small 2 _)).mono ?_
          rintro e w2 ⟨⟨vk, vn, vbA, vbn, vbc, vbs, vaA, van, vac, val, vt, vg, vkA, vkn, vkc, vks⟩, rfl, h1, h2, h4, h3⟩
          exact ⟨vk, vn, vbA, vbn, vbc, vbs, vaA, van, vac, val, vt, vg, vkA, vkn, vkc, vks, rfl, ⟨h1, h2.trans hu.out.2, h4.mono (fun b hb => .inr hb)⟩, h3⟩
        clear c0 c1 c2 c3 c4 c5 c6 c7 c8 bd gdl
        go_wp2_with fail
        refine HOU.out.mono ?_
        rintro e wf ⟨vk, vn, vbA, vbn, vbc, vbs, vaA, van, vac, val, vt, vg, vkA, vkn, vkc, vks, rfl, hv, kf⟩
        have Df := De.kept kf
        have hob7 := Df.o7
        have hkf := Df.k
        go_wp2_with (at_builtin; refine wpList_push w3 (by rfl) _ _ (by rfl) appT_nd (by rfl) hob7 hkf (by rfl) ?_ ?_; (exact ⟨by simp, rfl, rfl, by omega⟩); intro v7' wg hown7 hkg hgrg hobg)
        have Dg := (Df.swap.push (y := (Nd.mk vk vn vbA vbn vbc vbs vaA van vac val vt vg vkA vkn vkc vks)) (wc := we) hk3s hv.out.1 hv.out.2.2 De.swap hown7 hkg hgrg hobg).swap
        clear hob7 hkf hown7 hkg hgrg hobg Df De Dd
        go_roundw
        case rel =>
          refine ⟨j + 1, m + 1, O8 ++ [(Nd.mk zk zn zbA zbn zbc zbs zaA zan zac zal zt zg zkA zkn zkc zks)], O7 ++ [(Nd.mk vk vn vbA vbn vbc vbs vaA van vac val vt vg vkA vkn vkc vks)], hlt, by go_num, by omega, by omega, Dg, ?_, ?_⟩
          · rw [HTK.out, List.map_append, HI.out.1, List.map_singleton, hz.out.2.1]
          · rw [HTK.out, List.map_append, HI.out.2, List.map_singleton, hv.out.2.1]
        case measure =>
          simp [intOf]
          omega
      · have l1 : ¬ (j : Int) < 4 := by omega
        have e1 : TL.take (j + 1) = TL.take j := by
          rw [← HTL.out, tl_all (.inl (by omega)), tl_all (.inl (by omega))]
        have HE1 := Lib.hid e1
        have D1 := hD.kept kx
        clear e1 hyt hy
        go_wp2_with fail
        go_roundw
        case rel => exact ⟨j + 1, m, O8, O7, hlt, by go_num, hm4, by omega, D1, by unfold Hid; rw [HE1.out]; exact HI.out⟩
        case measure =>
          simp [intOf]
          omega
    · obtain rfl : j = ln := by omega
      have hTT : TL.take j = TL := by
        rw [← HTL.out, tl_all (.inr (by rw [List.length_map, HLL.out]; exact Nat.le_refl _))]
      have hO := HI.out
      rw [hTT] at hO
      have HOO := Lib.hid hO
      obtain ⟨VA8, VC8, rfl, hS8⟩ := Sl.of_own hD.o8
      obtain ⟨VA7, VC7, rfl, hS7⟩ := Sl.of_own hD.o7
      have N8 : Nds wr VA8 m VC8 O8 := ⟨hS8, fun x hx => (hD.nd x (.inl hx)).1⟩
      have N7 : Nds wr VA7 m VC7 O7 := ⟨hS7, fun x hx => (hD.nd x (.inr hx)).1⟩
      have bw := b3.kept hD.k
      have zokw := zok.kept hD.k
      have hpw := hp3.kept hD.k
      have KWr : Kept w wr := k3.trans hD.k
      have hm100 : m ≤ 100 := by omega
      clear hTT hO hS8 hS7 HI HCY hD b3 zok hp3 hl3 k3
      clear hlt
      have d0 : wr.cell? ⟨g1, 0, none⟩ = some (.int .i64 zk) := bw.cell 0
      have d1 : wr.cell? ⟨g1, 1, none⟩ = some (.string zn.u) := bw.cell 1
      have d2 : wr.cell? ⟨g1, 2, none⟩ = some (.string zn.l) := bw.cell 2
      have d3 : wr.cell? ⟨g1, 3, none⟩ = some (.string zn.p) := bw.cell 3
      have d4 : wr.cell? ⟨g1, 4, none⟩ = some (.slice zbA zbn zbc) := bw.cell 4
      have d5 : wr.cell? ⟨g1, 5, none⟩ = some (.slice zaA zan zac) := bw.cell 5
      have d6 : wr.cell? ⟨g1, 6, none⟩ = some (.string zt) := bw.cell 6
      have d7 : wr.cell? ⟨g1, 7, none⟩ = some (.string zg) := bw.cell 7
      have d8 : wr.cell? ⟨g1, 8, none⟩ = some (.slice zkA zkn zkc) := bw.cell 8
      have hZs : Small (Nd.mk zk zn zbA zbn zbc zbs zaA zan zac zal zt zg zkA zkn zkc zks).tr := by
        rw [HZX.out]
        exact HS.out
      have HO := Lib.hid (ours_any (Nd.mk zk zn zbA zbn zbc zbs zaA zan zac zal zt zg zkA zkn zkc zks) wr zokw hZs)
      clear hZs
      go_wp2_with fail
      refine HO.out.mono ?_
      rintro e w4 ⟨⟨yk, yn, ybA, ybn, ybc, ybs, yaA, yan, yac, yal, yt, yg, ykA, ykn, ykc, yks⟩, rfl, yok, ytr, _, k4⟩
      have N74 := N7.kept k4
      have N84 := N8.kept k4
      have HA1 := with_any (Nd.mk yk yn ybA ybn ybc ybs yaA yan yac yal yt yg ykA ykn ykc yks) VA7 m VC7 O7 PA pn' pc (ps.take 5) w4.heap.size w4 yok.lt (fun x hx => (N74.2 x hx).lt) (Nat.le_refl _) yok (by rw [ytr, HZX.out]; exact HS.out) (by rw [ytr, HZX.out]; exact HTX.out) N74 hm100 (mem_tr HOO.out.2 HTT.out.2.1) (hpw.kept k4) HPB.out
      rw [ytr, HZX.out, HOO.out.2, HAO.out] at HA1
      have HA := Lib.hid HA1
      have b4 := bw.kept k4
      have zok4 := zokw.kept k4
      have hp4 := hpw.kept k4
      have K4 := KWr.trans k4
      rw [Nd.val_mk]
      clear HA1 yok ytr d0 d1 d2 d3 d4 d5 d6 d7 d8 bw zokw hpw KWr k4 HO N7 N8 N74
      go_wp2_with fail
      refine HA.out.mono ?_
      rintro e w5 ⟨⟨xk, xn, xbA, xbn, xbc, xbs, xaA, xan, xac, xal, xt, xg, xkA, xkn, xkc, xks⟩, is, rfl, xok, hx, k5, xout⟩
      have b5 := b4.kept k5
      have zok5 := zok4.kept k5
      have hp5 := hp4.kept k5
      have N85 := N84.kept k5
      have K5 := K4.trans k5
      clear b4 zok4 hp4 K4 k5 N84
      rw [Nd.val_mk]
      go_upto_region 12 with fail
      have b6x : Blk (w5.alloc (.cells (ndc xk xn xbA xbn xbc xaA xan xac xt xg xkA xkn xkc) 36)) w5.heap.size (ndc xk xn xbA xbn xbc xaA xan xac xt xg xkA xkn xkc) 36 := Blk.new w5 _ _
      have k56 : Kept w5 (w5.alloc (.cells (ndc xk xn xbA xbn xbc xaA xan xac xt xg xkA xkn xkc) 36)) := (Kept.refl w5).alloc _
      change Code.wp _ _ _ _ (w5.alloc (.cells (ndc xk xn xbA xbn xbc xaA xan xac xt xg xkA xkn xkc) 36))
      generalize w5.alloc (.cells (ndc xk xn xbA xbn xbc xaA xan xac xt xg xkA xkn xkc) 36) = w6 at b6x k56 ⊢
      obtain ⟨g5, hg5⟩ : ∃ g5, w5.heap.size = g5 := ⟨_, rfl⟩
      rw [hg5] at b6x ⊢
      have b6 := b5.kept k56
      have zok6 := zok5.kept k56
      have xok6 := xok.kept k56
      have hp6 := hp5.kept k56
      have N86 := N85.kept k56
      have K6 := K5.trans k56
      have XOK := Lib.hid xok6
      have HXX := Lib.hid hx
      have hpl := hp6.llen1
      clear hg5 b5 zok5 xok hp5 K5 k56 xok6 hx xout HA N85
      by_cases hp0 : pn' = 0
      · subst hp0
        have hps : ps.take 5 = [] := List.eq_nil_of_length_eq_zero (by simpa using hpl)
        have hao : AO = none := by
          rw [← HAO.out, hps]
          rfl
        have hxn : is = false ∧ (Nd.mk xk xn xbA xbn xbc xbs xaA xan xac xal xt xg xkA xkn xkc xks) = Nd.none_ := by
          rcases HXX.out with ⟨h1, _⟩ | ⟨_, h2, h3⟩
          · rw [hao] at h1
            cases h1
          · exact ⟨h2, h3⟩
        obtain ⟨rfl, hx0⟩ := hxn
        unfold Nd.none_ at hx0
        injection hx0 with x0 x1 x2 x3 x4 x5 x6 x7 x8 x9 xa xb xc xd xe xf
        subst x0 x1 x2 x3 x4 x5 x6 x7 x8 x9 xa xb xc xd xe xf
        have HSM : Hid (∀ w', Calls Try.prog 22 #[.agg #[.int .i64 0, .string ⟨#[]⟩, .string ⟨#[]⟩, .string ⟨#[]⟩, .slice none 0 0, .slice none 0 0, .string ⟨#[]⟩, .string ⟨#[]⟩, .slice none 0 0], .agg #[.int .i64 0, .string ⟨#[]⟩, .string ⟨#[]⟩, .string ⟨#[]⟩, .slice none 0 0, .slice none 0 0, .string ⟨#[]⟩, .string ⟨#[]⟩, .slice none 0 0]] w' fun e w'' => e = .returned (.bool true) ∧ Kept w' w'') := by
          intro w'
          have h1 := same_any Nd.none_ Nd.none_ w' (Nd.none_ok _) (Nd.none_ok _)
          rw [sameT_self] at h1
          exact h1
        obtain ⟨z0, z1, z2, z3, z4, z5, z6, z7, z8, zf, zl⟩ := blk_znd (w := w6) (g := g5) b6x
        clear hps hao hpl b6 zok6 hp6 N86 XOK HXX
        go_wp2_with fail
        refine (HSM.out _).mono ?_
        rintro e w7 ⟨rfl, k7⟩
        go_wp2_with fail
        refine (infAwake_any _).mono ?_
        rintro e w8 ⟨rfl, k8⟩
        go_wp2_with fail
        go_ret
        exact ⟨rfl, (K6.trans k7).trans k8⟩
      have l1 : ¬ (pn' : Int) = 0 := by omega
      have hpne : ps.take 5 ≠ [] := by
        intro h0
        rw [h0] at hpl
        simp at hpl
        omega
      have hzs : Small (Nd.mk zk zn zbA zbn zbc zbs zaA zan zac zal zt zg zkA zkn zkc zks).tr := by
        rw [HZX.out]
        exact HS.out
      have HR1 := rwith_any (Nd.mk zk zn zbA zbn zbc zbs zaA zan zac zal zt zg zkA zkn zkc zks) VA8 m VC8 O8 PA pn' pc (ps.take 5) w6.heap.size w6 hpne zok6.lt (fun x hx => (N86.2 x hx).lt) (Nat.le_refl _) zok6 hzs (by rw [HZX.out]; exact HTX.out) N86 hm100 (mem_tr HOO.out.1 HTT.out.2.1) hp6 HPB.out
      rw [HZX.out, HOO.out.1, HAO.out] at HR1
      have HR := Lib.hid HR1
      clear HR1 hpne hzs hpl hp6 N86
      have d0 : w6.cell? ⟨g1, 0, none⟩ = some (.int .i64 zk) := b6.cell 0
      have d1 : w6.cell? ⟨g1, 1, none⟩ = some (.string zn.u) := b6.cell 1
      have d2 : w6.cell? ⟨g1, 2, none⟩ = some (.string zn.l) := b6.cell 2
      have d3 : w6.cell? ⟨g1, 3, none⟩ = some (.string zn.p) := b6.cell 3
      have d4 : w6.cell? ⟨g1, 4, none⟩ = some (.slice zbA zbn zbc) := b6.cell 4
      have d5 : w6.cell? ⟨g1, 5, none⟩ = some (.slice zaA zan zac) := b6.cell 5
      have d6 : w6.cell? ⟨g1, 6, none⟩ = some (.string zt) := b6.cell 6
      have d7 : w6.cell? ⟨g1, 7, none⟩ = some (.string zg) := b6.cell 7
      have d8 : w6.cell? ⟨g1, 8, none⟩ = some (.slice zkA zkn zkc) := b6.cell 8
      go_wp2_with fail
      refine HR.out.mono ?_
      rintro e w7 ⟨⟨vk, vn, vbA, vbn, vbc, vbs, vaA, van, vac, val, vt, vg, vkA, vkn, vkc, vks⟩, is2, rfl, vok, hv, k7, _⟩
      rw [Nd.val_mk]
      have his : is2 = is ∧ (Nd.mk xk xn xbA xbn xbc xbs xaA xan xac xal xt xg xkA xkn xkc xks).tr = (Nd.mk vk vn vbA vbn vbc vbs vaA van vac val vt vg vkA vkn vkc vks).tr ∧ Small (Nd.mk xk xn xbA xbn xbc xbs xaA xan xac xal xt xg xkA xkn xkc xks).tr := by
        rcases HXX.out with ⟨h1, h2⟩ | ⟨h1, h2, h3⟩
        · rcases hv with ⟨h4, h5⟩ | ⟨h4, _⟩
          · rw [h1] at h4
            injection h4 with h4
            exact ⟨by rw [h2, h5], h4, withT_small HTT.out.1 HTT.out.2.2 (ps.take 5) H5.out (HAO.out.trans h1)⟩
          · rw [h1] at h4
            cases h4
        · rcases hv with ⟨h4, h5⟩ | ⟨h4, h5, h6⟩
          · rw [h1] at h4
            cases h4
          · rw [h3, h6]
            refine ⟨by rw [h2, h5], rfl, ?_⟩
            rw [Nd.none_, Nd.tr_mk]
            exact .mk (by simp) (by simp) (by simp) (by simp)
      obtain ⟨rfl, hxv, hxs⟩ := his
      have HXV := Lib.hid (show _ ∧ _ from ⟨hxv, hxs⟩)
      clear hxv hxs hv HXX HAO d0 d1 d2 d3 d4 d5 d6 d7 d8
      go_upto_region 15 with fail
      have b8v : Blk (w7.alloc (.cells (ndc vk vn vbA vbn vbc vaA van vac vt vg vkA vkn vkc) 28)) w7.heap.size (ndc vk vn vbA vbn vbc vaA van vac vt vg vkA vkn vkc) 28 := Blk.new w7 _ _
      have k78 : Kept w7 (w7.alloc (.cells (ndc vk vn vbA vbn vbc vaA van vac vt vg vkA vkn vkc) 28)) := (Kept.refl w7).alloc _
      change Code.wp _ _ _ _ (w7.alloc (.cells (ndc vk vn vbA vbn vbc vaA van vac vt vg vkA vkn vkc) 28))
      generalize w7.alloc (.cells (ndc vk vn vbA vbn vbc vaA van vac vt vg vkA vkn vkc) 28) = w8 at b8v k78 ⊢
      obtain ⟨g7, hg7⟩ : ∃ g7, w7.heap.size = g7 := ⟨_, rfl⟩
      rw [hg7] at b8v ⊢
      have k68 := k7.trans k78
      have b8x := b6x.kept k68
      have xok8 := XOK.out.kept k68
      have vok8 := vok.kept k78
      have K8 := K6.trans k68
      have X8 := Lib.hid xok8
      have V8 := Lib.hid vok8
      clear hg7 b6 b6x zok6 XOK vok K6 k7 k78 k68 HR xok8 vok8
      have HPL : Hid (∀ w', Kept w8 w' → Calls Try.prog 12 #[.agg #[.int .i64 xk, .string xn.u, .string xn.l, .string xn.p, .slice xbA xbn xbc, .slice xaA xan xac, .string xt, .string xg, .slice xkA xkn xkc]] w' fun e w'' =>
          ∃ pk pn pbA pbn pbc pbs paA pan pac pal pt pg pkA pkn pkc pks, e = .returned (.agg #[.int .i64 pk, .string (Nm.u pn), .string (Nm.l pn), .string (Nm.p pn), .slice pbA pbn pbc, .slice paA pan pac, .string pt, .string pg, .slice pkA pkn pkc]) ∧ Hid ((Nd.mk pk pn pbA pbn pbc pbs paA pan pac pal pt pg pkA pkn pkc pks).ok w'' ∧ (Nd.mk pk pn pbA pbn pbc pbs paA pan pac pal pt pg pkA pkn pkc pks).tr = (Nd.mk vk vn vbA vbn vbc vbs vaA van vac val vt vg vkA vkn vkc vks).tr) ∧ Kept w8 w'') := by
        intro w' kk
        refine (plain_any (Nd.mk xk xn xbA xbn xbc xbs xaA xan xac xal xt xg xkA xkn xkc xks) w' (X8.out.kept kk) HXV.out.2).mono ?_
        rintro e w2 ⟨⟨pk, pn, pbA, pbn, pbc, pbs, paA, pan, pac, pal, pt, pg, pkA, pkn, pkc, pks⟩, rfl, h1, h2, _, h3⟩
        exact ⟨pk, pn, pbA, pbn, pbc, pbs, paA, pan, pac, pal, pt, pg, pkA, pkn, pkc, pks, rfl, ⟨h1, h2.trans HXV.out.1⟩, kk.trans h3⟩
      have HSM : Hid (∀ pk pn pbA pbn pbc pbs paA pan pac pal pt pg pkA pkn pkc pks (w' : World), Hid ((Nd.mk pk pn pbA pbn pbc pbs paA pan pac pal pt pg pkA pkn pkc pks).ok w' ∧ (Nd.mk pk pn pbA pbn pbc pbs paA pan pac pal pt pg pkA pkn pkc pks).tr = (Nd.mk vk vn vbA vbn vbc vbs vaA van vac val vt vg vkA vkn vkc vks).tr) → Kept w8 w' → Calls Try.prog 11 #[.agg #[.int .i64 pk, .string (Nm.u pn), .string (Nm.l pn), .string (Nm.p pn), .slice pbA pbn pbc, .slice paA pan pac, .string pt, .string pg, .slice pkA pkn pkc], .agg #[.int .i64 vk, .string vn.u, .string vn.l, .string vn.p, .slice vbA vbn vbc, .slice vaA van vac, .string vt, .string vg, .slice vkA vkn vkc]] w' fun e w'' => e = .returned (.bool true) ∧ Kept w' w'') := by
        intro pk pn pbA pbn pbc pbs paA pan pac pal pt pg pkA pkn pkc pks w' hu kk
        have h1 := rsame_any (Nd.mk pk pn pbA pbn pbc pbs paA pan pac pal pt pg pkA pkn pkc pks) (Nd.mk vk vn vbA vbn vbc vbs vaA van vac val vt vg vkA vkn vkc vks) w' hu.out.1 (V8.out.kept kk)
        rw [hu.out.2, sameT_self] at h1
        exact h1
      have bwx := b8x.cell
      have bwv := b8v.cell
      have x0 : w8.cell? ⟨g5, 0, none⟩ = some (.int .i64 xk) := bwx 0
      have x1 : w8.cell? ⟨g5, 1, none⟩ = some (.string xn.u) := bwx 1
      have x2 : w8.cell? ⟨g5, 2, none⟩ = some (.string xn.l) := bwx 2
      have x3 : w8.cell? ⟨g5, 3, none⟩ = some (.string xn.p) := bwx 3
      have x4 : w8.cell? ⟨g5, 4, none⟩ = some (.slice xbA xbn xbc) := bwx 4
      have x5 : w8.cell? ⟨g5, 5, none⟩ = some (.slice xaA xan xac) := bwx 5
      have x6 : w8.cell? ⟨g5, 6, none⟩ = some (.string xt) := bwx 6
      have x7 : w8.cell? ⟨g5, 7, none⟩ = some (.string xg) := bwx 7
      have x8 : w8.cell? ⟨g5, 8, none⟩ = some (.slice xkA xkn xkc) := bwx 8
      have v0 : w8.cell? ⟨g7, 0, none⟩ = some (.int .i64 vk) := bwv 0
      have v1 : w8.cell? ⟨g7, 1, none⟩ = some (.string vn.u) := bwv 1
      have v2 : w8.cell? ⟨g7, 2, none⟩ = some (.string vn.l) := bwv 2
      have v3 : w8.cell? ⟨g7, 3, none⟩ = some (.string vn.p) := bwv 3
      have v4 : w8.cell? ⟨g7, 4, none⟩ = some (.slice vbA vbn vbc) := bwv 4
      have v5 : w8.cell? ⟨g7, 5, none⟩ = some (.slice vaA van vac) := bwv 5
      have v6 : w8.cell? ⟨g7, 6, none⟩ = some (.string vt) := bwv 6
      have v7 : w8.cell? ⟨g7, 7, none⟩ = some (.string vg) := bwv 7
      have v8 : w8.cell? ⟨g7, 8, none⟩ = some (.slice vkA vkn vkc) := bwv 8
      have MK : Hid (∀ w', Kept w8 w' → w'.cell? ⟨g5, 0, none⟩ = some (.int .i64 xk) ∧ w'.cell? ⟨g5, 1, none⟩ = some (.string xn.u) ∧ w'.cell? ⟨g5, 2, none⟩ = some (.string xn.l) ∧ w'.cell? ⟨g5, 3, none⟩ = some (.string xn.p) ∧ w'.cell? ⟨g5, 4, none⟩ = some (.slice xbA xbn xbc) ∧ w'.cell? ⟨g5, 5, none⟩ = some (.slice xaA xan xac) ∧ w'.cell? ⟨g5, 6, none⟩ = some (.string xt) ∧ w'.cell? ⟨g5, 7, none⟩ = some (.string xg) ∧ w'.cell? ⟨g5, 8, none⟩ = some (.slice xkA xkn xkc) ∧ w'.cell? ⟨g7, 0, none⟩ = some (.int .i64 vk) ∧ w'.cell? ⟨g7, 1, none⟩ = some (.string vn.u) ∧ w'.cell? ⟨g7, 2, none⟩ = some (.string vn.l) ∧ w'.cell? ⟨g7, 3, none⟩ = some (.string vn.p) ∧ w'.cell? ⟨g7, 4, none⟩ = some (.slice vbA vbn vbc) ∧ w'.cell? ⟨g7, 5, none⟩ = some (.slice vaA van vac) ∧ w'.cell? ⟨g7, 6, none⟩ = some (.string vt) ∧ w'.cell? ⟨g7, 7, none⟩ = some (.string vg) ∧ w'.cell? ⟨g7, 8, none⟩ = some (.slice vkA vkn vkc)) :=
        fun w' kk => ⟨kk.cell x0, kk.cell x1, kk.cell x2, kk.cell x3, kk.cell x4, kk.cell x5, kk.cell x6, kk.cell x7, kk.cell x8, kk.cell v0, kk.cell v1, kk.cell v2, kk.cell v3, kk.cell v4, kk.cell v5, kk.cell v6, kk.cell v7, kk.cell v8⟩
      clear bwx bwv x0 v0 x1 v1 x2 v2 x3 v3 x4 v4 x5 v5 x6 v6 x7 v7 x8 v8
      go_region_held3 (fun w' => w'.cell? ⟨g5, 0, none⟩ = some (.int .i64 xk) ∧ w'.cell? ⟨g5, 1, none⟩ = some (.string xn.u) ∧ w'.cell? ⟨g5, 2, none⟩ = some (.string xn.l) ∧ w'.cell? ⟨g5, 3, none⟩ = some (.string xn.p) ∧ w'.cell? ⟨g5, 4, none⟩ = some (.slice xbA xbn xbc) ∧ w'.cell? ⟨g5, 5, none⟩ = some (.slice xaA xan xac) ∧ w'.cell? ⟨g5, 6, none⟩ = some (.string xt) ∧ w'.cell? ⟨g5, 7, none⟩ = some (.string xg) ∧ w'.cell? ⟨g5, 8, none⟩ = some (.slice xkA xkn xkc) ∧ w'.cell? ⟨g7, 0, none⟩ = some (.int .i64 vk) ∧ w'.cell? ⟨g7, 1, none⟩ = some (.string vn.u) ∧ w'.cell? ⟨g7, 2, none⟩ = some (.string vn.l) ∧ w'.cell? ⟨g7, 3, none⟩ = some (.string vn.p) ∧ w'.cell? ⟨g7, 4, none⟩ = some (.slice vbA vbn vbc) ∧ w'.cell? ⟨g7, 5, none⟩ = some (.slice vaA van vac) ∧ w'.cell? ⟨g7, 6, none⟩ = some (.string vt) ∧ w'.cell? ⟨g7, 7, none⟩ = some (.string vg) ∧ w'.cell? ⟨g7, 8, none⟩ = some (.slice vkA vkn vkc))
        (first | (with_reducible exact MK.out _ kw4) | (with_reducible exact MK.out _ kw2) | (with_reducible exact MK.out _ kw1) | (with_reducible exact MK.out _ (Kept.refl w8).drew))
        (first
        | (go_at_call 12; refine (HPL.out _ (Kept.refl w8).drew).mono ?_; rintro e wa ⟨pk, pn, pbA, pbn, pbc, pbs, paA, pan, pac, pal, pt, pg, pkA, pkn, pkc, pks, rfl, hu, kw1⟩)
        | (go_at_call 11; refine (HSM.out pk pn pbA pbn pbc pbs paA pan pac pal pt pg pkA pkn pkc pks _ hu kw1).mono ?_; rintro e wb ⟨rfl, kb⟩; have kw2 : Kept w8 wb := kw1.trans kb)
        | (go_at_call 15; refine (infAwake_any _).mono ?_; rintro e wd ⟨rfl, kd⟩; have kw4 : Kept w8 wd := kw2.trans kd))
      all_goals
        go_wp2_with fail
        go_ret
        exact ⟨rfl, K8.trans kw4⟩
end Go.Proofs.Ytnlncamiaddhfaa
