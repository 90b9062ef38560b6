/- The law InfoAt, walked. Printed by gen_infb.py. -/
import Derived.Test.YtnlncamiaddhfaaInfZ
import Derived.Test.YtnlncamiaddhfaaInfA
namespace Go.Proofs.Ytnlncamiaddhfaa
open Go.RowKit
attribute [local go_sem ↓] Go.wp_at_zero Go.wp_at_succ

def ShortP (PA : Option Addr) (pn pc : Nat) (ps : List Int) (pn' : Nat) : Prop := ∀ W0, Sl W0 1 PA pn pc (ps.map (Value.int .i64)) → Sl W0 1 PA pn' pc ((ps.take 5).map (Value.int .i64))
theorem short_any (PA : Option Addr) (pn pc : Nat) (ps : List Int) (w : World) (hp : Sl w 1 PA pn pc (ps.map (Value.int .i64))) :
    Calls Try.prog 16 #[.slice PA pn pc] w fun e w' => ∃ pn' : Nat, e = .returned (.slice PA pn' pc) ∧ ShortP PA pn pc ps pn' ∧ pn' ≤ 5 ∧ w = w' := by
  have hpc := hp.cap
  have hpm := hp.max
  by_cases h5 : 5 < pn
  · have hcut : ∀ wv : World, (Instr.slice 45 (.slice PA pn pc) none (some (.int .i64 5)) none).run Try.prog wv = .ok (.slice PA 5 pc) wv := run_cut_h appT_int PA pn pc 5 (by omega)
    have HP : ShortP PA pn pc ps 5 := fun W0 h => h.to1 (m := 5) (by omega)
    have l1 : (5 : Int) < pn := by omega
    go_enter Try.func16, Try.ntmps16
    go_wp2_with fail
    go_ret
    exact ⟨5, by simp, HP, Nat.le_refl _, rfl⟩
  · have hl := hp.llen1
    have HP : ShortP PA pn pc ps pn := by
      intro W0 h
      rw [List.take_of_length_le (by omega)]
      exact h
    have l1 : ¬ (5 : Int) < pn := by omega
    clear hl
    go_enter Try.func16, Try.ntmps16
    go_wp2_with fail
    go_ret
    exact ⟨pn, by simp, HP, by omega, rfl⟩
theorem els_one {ks : List Tr} {j q : Nat} (h : (els 0 ks)[j]? = some q) : kidI (kidT ks (j : Nat)) = q ∧ q < ks.length ∧ ∃ x, ks[q]? = some x ∧ x.kind = 2 := by
  have h2 : kidT ks (j : Nat) = some q := by
    unfold kidT
    rw [if_neg (by omega), Int.toNat_natCast]
    exact h
  obtain ⟨a, b⟩ := kid_bd h2
  exact ⟨by rw [h2]; rfl, a, b⟩
theorem els_end {ks : List Tr} : kidI (kidT ks ((els 0 ks).length : Nat)) = -1 := by
  unfold kidT
  rw [if_neg (by omega), Int.toNat_natCast, List.getElem?_eq_none (Nat.le_refl _)]
  rfl
set_option maxRecDepth 100000 in
set_option maxHeartbeats 8000000 in
theorem infoAt_any (x : Nd) (PA : Option Addr) (pn pc : Nat) (ps : List Int) (w : World) (hok : x.ok w) (hp : Sl w 1 PA pn pc (ps.map (Value.int .i64))) (hpb : ∀ z ∈ ps, -9223372036854775808 ≤ z ∧ z ≤ 9223372036854775807) :
    Calls Try.prog 4 #[x.val, .slice PA pn pc] w fun e w' => e = .returned (.bool true) ∧ Kept w w' := by
  have HC := Lib.hid (fun w' (kk : Kept w w') => cut_any x 4 w' w.heap.size (by omega) (hok.kept kk) hok.lt kk.size)
  have hS := cut_small 4 x.tr
  obtain ⟨X, hX⟩ : ∃ X, cutT 4 x.tr = X := ⟨_, rfl⟩
  rw [hX] at hS
  have HS := Lib.hid hS
  have HX := Lib.hid hX
  obtain ⟨AO, hAO⟩ : ∃ AO, atT X (ps.take 5) = AO := ⟨_, rfl⟩
  have HAO := Lib.hid hAO
  have HPB := Lib.hid (show ∀ z ∈ ps.take 5, -9223372036854775808 ≤ z ∧ z ≤ 9223372036854775807 from fun z hz => hpb z (List.mem_of_mem_take hz))
  have HSH := Lib.hid (fun w' (kk : Kept w w') => short_any PA pn pc ps w' (hp.kept kk))
  clear hok hS hX hpb hAO
  obtain ⟨k, n, bA, bn, bc, bs, aA, an, ac, al, t, g, kA, kn, kc, ks⟩ := x
  have HC2 : Hid (∀ w', Kept w w' → Calls Try.prog 7 #[.agg #[.int .i64 k, .string n.u, .string n.l, .string n.p, .slice bA bn bc, .slice aA an ac, .string t, .string g, .slice kA kn kc], .int .i64 4] w' fun e w'' =>
      ∃ zk zn zbA zbn zbc zbs zaA zan zac zal zt zg zkA zkn zkc zks, e = .returned (.agg #[.int .i64 zk, .string (Nm.u zn), .string (Nm.l zn), .string (Nm.p zn), .slice zbA zbn zbc, .slice zaA zan zac, .string zt, .string zg, .slice zkA zkn zkc]) ∧
        Hid ((Nd.mk zk zn zbA zbn zbc zbs zaA zan zac zal zt zg zkA zkn zkc zks).ok w'' ∧ (Nd.mk zk zn zbA zbn zbc zbs zaA zan zac zal zt zg zkA zkn zkc zks).tr = X ∧ (Nd.mk zk zn zbA zbn zbc zbs zaA zan zac zal zt zg zkA zkn zkc zks).out (fun b => b < w.heap.size ∨ w'.heap.size ≤ b)) ∧ Kept w' w'') := by
    intro w' kk
    refine (HC.out w' kk).mono ?_
    rintro e w2 ⟨⟨zk, zn, zbA, zbn, zbc, zbs, zaA, zan, zac, zal, zt, zg, zkA, zkn, zkc, zks⟩, rfl, h1, h2, h4, h3⟩
    exact ⟨zk, zn, zbA, zbn, zbc, zbs, zaA, zan, zac, zal, zt, zg, zkA, zkn, zkc, zks, rfl, ⟨h1, h2.trans HX.out, h4⟩, h3⟩
  clear HC
  show Calls Try.prog 4 #[.agg #[.int .i64 k, .string n.u, .string n.l, .string n.p, .slice bA bn bc, .slice aA an ac, .string t, .string g, .slice kA kn kc], .slice PA pn pc] w _
  have k1 := (Kept.refl w).alloc (.cells (ndc k n bA bn bc aA an ac t g kA kn kc) 28)
  have b1 := Blk.new w (ndc k n bA bn bc aA an ac t g kA kn kc) 28
  go_enter Try.func4, Try.ntmps4
  go_wp2_with fail
  refine (HC2.out _ k1).mono ?_
  rintro e w2 ⟨zk, zn, zbA, zbn, zbc, zbs, zaA, zan, zac, zal, zt, zg, zkA, zkn, zkc, zks, rfl, hz, k2⟩
  have b2 := b1.kept k2
  have K2 := k1.trans k2
  go_wp2_with fail
  refine (HSH.out _ K2).mono ?_
  rintro e w2' ⟨pn', rfl, HP, hpn, rfl⟩
  have c0 : w2.cell? ⟨w.heap.size, 0, none⟩ = some (.int .i64 k) := b2.cell 0
  have c1 : w2.cell? ⟨w.heap.size, 1, none⟩ = some (.string n.u) := b2.cell 1
  have c2 : w2.cell? ⟨w.heap.size, 2, none⟩ = some (.string n.l) := b2.cell 2
  have c3 : w2.cell? ⟨w.heap.size, 3, none⟩ = some (.string n.p) := b2.cell 3
  have c4 : w2.cell? ⟨w.heap.size, 4, none⟩ = some (.slice bA bn bc) := b2.cell 4
  have c5 : w2.cell? ⟨w.heap.size, 5, none⟩ = some (.slice aA an ac) := b2.cell 5
  have c6 : w2.cell? ⟨w.heap.size, 6, none⟩ = some (.string t) := b2.cell 6
  have c7 : w2.cell? ⟨w.heap.size, 7, none⟩ = some (.string g) := b2.cell 7
  have c8 : w2.cell? ⟨w.heap.size, 8, none⟩ = some (.slice kA kn kc) := b2.cell 8
  have cf := b2.frozen
  have cl := b2.lt
  go_upto_region 2 with fail
  have b3 := blk_setB9 b2 (.int .i64 zk) (.string zn.u) (.string zn.l) (.string zn.p) (.slice zbA zbn zbc) (.slice zaA zan zac) (.string zt) (.string zg) (.slice zkA zkn zkc)
  have k3 := kept_setB9 (k1.trans k2) (Nat.le_refl _) (.int .i64 zk) (.string zn.u) (.string zn.l) (.string zn.p) (.slice zbA zbn zbc) (.slice zaA zan zac) (.string zt) (.string zg) (.slice zkA zkn zkc)
  have g3 := grown_setB9 w2 w.heap.size (.int .i64 zk) (.string zn.u) (.string zn.l) (.string zn.p) (.slice zbA zbn zbc) (.slice zaA zan zac) (.string zt) (.string zg) (.slice zkA zkn zkc)
  have zok := hz.out.1.grown g3 (hz.out.2.2.mono (fun b hb => by
    intro e
    injection e with e
    have hb' : b < w.heap.size ∨ w.heap.size + 1 ≤ b := by simpa using hb
    omega))
  have hp3 := (HP _ hp).kept k3
  change Code.wp _ _ _ _ (setB9 w2 w.heap.size (.int .i64 zk) (.string zn.u) (.string zn.l) (.string zn.p) (.slice zbA zbn zbc) (.slice zaA zan zac) (.string zt) (.string zg) (.slice zkA zkn zkc))
  generalize setB9 w2 w.heap.size (.int .i64 zk) (.string zn.u) (.string zn.l) (.string zn.p) (.slice zbA zbn zbc) (.slice zaA zan zac) (.string zt) (.string zg) (.slice zkA zkn zkc) = w3 at b3 k3 zok hp3 ⊢
  have hZX := hz.out.2.1
  obtain ⟨g1, hg1⟩ : ∃ g1, w.heap.size = g1 := ⟨_, rfl⟩
  rw [hg1] at b3 ⊢
  clear c0 c1 c2 c3 c4 c5 c6 c7 c8 cf cl b2 b1 k1 k2 K2 g3 hg1 HC2 HX hz hp HP HSH
  have d0 : w3.cell? ⟨g1, 0, none⟩ = some (.int .i64 zk) := b3.cell 0
  have d1 : w3.cell? ⟨g1, 1, none⟩ = some (.string zn.u) := b3.cell 1
  have d2 : w3.cell? ⟨g1, 2, none⟩ = some (.string zn.l) := b3.cell 2
  have d3 : w3.cell? ⟨g1, 3, none⟩ = some (.string zn.p) := b3.cell 3
  have d4 : w3.cell? ⟨g1, 4, none⟩ = some (.slice zbA zbn zbc) := b3.cell 4
  have d5 : w3.cell? ⟨g1, 5, none⟩ = some (.slice zaA zan zac) := b3.cell 5
  have d6 : w3.cell? ⟨g1, 6, none⟩ = some (.string zt) := b3.cell 6
  have d7 : w3.cell? ⟨g1, 7, none⟩ = some (.string zg) := b3.cell 7
  have d8 : w3.cell? ⟨g1, 8, none⟩ = some (.slice zkA zkn zkc) := b3.cell 8
  have hZs : Small (Nd.mk zk zn zbA zbn zbc zbs zaA zan zac zal zt zg zkA zkn zkc zks).tr := by
    rw [hZX]
    exact HS.out
  have HO := Lib.hid (ours_any (Nd.mk zk zn zbA zbn zbc zbs zaA zan zac zal zt zg zkA zkn zkc zks) w3 zok hZs)
  have hZk := kids_of (x := (Nd.mk zk zn zbA zbn zbc zbs zaA zan zac zal zt zg zkA zkn zkc zks)) rfl
  rw [hZX] at hZk
  have HZK := Lib.hid hZk
  have HZX := Lib.hid hZX
  clear hZs hZk hZX
  go_wp2_with fail
  refine HO.out.mono ?_
  rintro e w4 ⟨⟨yk, yn, ybA, ybn, ybc, ybs, yaA, yan, yac, yal, yt, yg, ykA, ykn, ykc, yks⟩, rfl, yok, ytr, _, k4⟩
  have hys : Small (Nd.mk yk yn ybA ybn ybc ybs yaA yan yac yal yt yg ykA ykn ykc yks).tr := by
    rw [ytr, HZX.out]
    exact HS.out
  have HA1 := at_any (Nd.mk yk yn ybA ybn ybc ybs yaA yan yac yal yt yg ykA ykn ykc yks) PA pn' pc (ps.take 5) w4.heap.size w4 yok.lt (Nat.le_refl _) yok hys (hp3.kept k4) HPB.out
  rw [ytr, HZX.out, HAO.out] at HA1
  have HA := Lib.hid HA1
  have b4 := b3.kept k4
  have zok4 := zok.kept k4
  have hp4 := hp3.kept k4
  have K4 := k3.trans k4
  rw [Nd.val_mk]
  clear HA1 yok ytr hys d0 d1 d2 d3 d4 d5 d6 d7 d8 b3 zok hp3 k3 k4 HO
  go_wp2_with fail
  refine HA.out.mono ?_
  rintro e w5 ⟨⟨xk, xn, xbA, xbn, xbc, xbs, xaA, xan, xac, xal, xt, xg, xkA, xkn, xkc, xks⟩, is, rfl, xok, hx, k5, xout⟩
  have b5 := b4.kept k5
  have zok5 := zok4.kept k5
  have hp5 := hp4.kept k5
  have K5 := K4.trans k5
  clear b4 zok4 hp4 K4 k5
  rw [Nd.val_mk]
  go_upto_region 3 with fail
  have b6x : Blk (w5.alloc (.cells (ndc xk xn xbA xbn xbc xaA xan xac xt xg xkA xkn xkc) 36)) w5.heap.size (ndc xk xn xbA xbn xbc xaA xan xac xt xg xkA xkn xkc) 36 := Blk.new w5 _ _
  have k56 : Kept w5 (w5.alloc (.cells (ndc xk xn xbA xbn xbc xaA xan xac xt xg xkA xkn xkc) 36)) := (Kept.refl w5).alloc _
  change Code.wp _ _ _ _ (w5.alloc (.cells (ndc xk xn xbA xbn xbc xaA xan xac xt xg xkA xkn xkc) 36))
  generalize w5.alloc (.cells (ndc xk xn xbA xbn xbc xaA xan xac xt xg xkA xkn xkc) 36) = w6 at b6x k56 ⊢
  obtain ⟨g5, hg5⟩ : ∃ g5, w5.heap.size = g5 := ⟨_, rfl⟩
  rw [hg5] at b6x ⊢
  have b6 := b5.kept k56
  have zok6 := zok5.kept k56
  have xok6 := xok.kept k56
  have hp6 := hp5.kept k56
  have K6 := K5.trans k56
  have hzs : Small (Nd.mk zk zn zbA zbn zbc zbs zaA zan zac zal zt zg zkA zkn zkc zks).tr := by
    rw [HZX.out]
    exact HS.out
  have HR1 := rat_any (ps.take 5) (Nd.mk zk zn zbA zbn zbc zbs zaA zan zac zal zt zg zkA zkn zkc zks) PA pn' pc w6.heap.size w6 zok6.lt (Nat.le_refl _) zok6 hzs hp6 HPB.out
  rw [HZX.out, HAO.out] at HR1
  have HR := Lib.hid HR1
  have XOK := Lib.hid xok6
  have HXX := Lib.hid hx
  clear HR1 hg5 b5 zok5 xok hp5 K5 k56 xok6 hx hzs hp6 xout HA HPB
  have d0 : w6.cell? ⟨g1, 0, none⟩ = some (.int .i64 zk) := b6.cell 0
  have d1 : w6.cell? ⟨g1, 1, none⟩ = some (.string zn.u) := b6.cell 1
  have d2 : w6.cell? ⟨g1, 2, none⟩ = some (.string zn.l) := b6.cell 2
  have d3 : w6.cell? ⟨g1, 3, none⟩ = some (.string zn.p) := b6.cell 3
  have d4 : w6.cell? ⟨g1, 4, none⟩ = some (.slice zbA zbn zbc) := b6.cell 4
  have d5 : w6.cell? ⟨g1, 5, none⟩ = some (.slice zaA zan zac) := b6.cell 5
  have d6 : w6.cell? ⟨g1, 6, none⟩ = some (.string zt) := b6.cell 6
  have d7 : w6.cell? ⟨g1, 7, none⟩ = some (.string zg) := b6.cell 7
  have d8 : w6.cell? ⟨g1, 8, none⟩ = some (.slice zkA zkn zkc) := b6.cell 8
  go_wp2_with fail
  refine HR.out.mono ?_
  rintro e w7 ⟨⟨vk, vn, vbA, vbn, vbc, vbs, vaA, van, vac, val, vt, vg, vkA, vkn, vkc, vks⟩, is2, rfl, vok, hv, k7, _⟩
  rw [Nd.val_mk]
  have his : is2 = is ∧ (Nd.mk xk xn xbA xbn xbc xbs xaA xan xac xal xt xg xkA xkn xkc xks).tr = (Nd.mk vk vn vbA vbn vbc vbs vaA van vac val vt vg vkA vkn vkc vks).tr ∧ Small (Nd.mk xk xn xbA xbn xbc xbs xaA xan xac xal xt xg xkA xkn xkc xks).tr := by
    rcases HXX.out with ⟨h1, h2⟩ | ⟨h1, h2, h3⟩
    · rcases hv with ⟨h4, h5⟩ | ⟨h4, _⟩
      · rw [h1] at h4
        injection h4 with h4
        exact ⟨by rw [h2, h5], h4, atT_small (HAO.out.trans h1) HS.out⟩
      · rw [h1] at h4
        cases h4
    · rcases hv with ⟨h4, h5⟩ | ⟨h4, h5, h6⟩
      · rw [h1] at h4
        cases h4
      · rw [h3, h6]
        refine ⟨by rw [h2, h5], rfl, ?_⟩
        rw [Nd.none_, Nd.tr_mk]
        exact .mk (by simp) (by simp) (by simp) (by simp)
  obtain ⟨rfl, hxv, hxs⟩ := his
  have HXV := Lib.hid (show _ ∧ _ from ⟨hxv, hxs⟩)
  clear hxv hxs hv HXX HAO d0 d1 d2 d3 d4 d5 d6 d7 d8
  go_upto_region 4 with fail
  have b8v : Blk (w7.alloc (.cells (ndc vk vn vbA vbn vbc vaA van vac vt vg vkA vkn vkc) 28)) w7.heap.size (ndc vk vn vbA vbn vbc vaA van vac vt vg vkA vkn vkc) 28 := Blk.new w7 _ _
  have k78 : Kept w7 (w7.alloc (.cells (ndc vk vn vbA vbn vbc vaA van vac vt vg vkA vkn vkc) 28)) := (Kept.refl w7).alloc _
  change Code.wp _ _ _ _ (w7.alloc (.cells (ndc vk vn vbA vbn vbc vaA van vac vt vg vkA vkn vkc) 28))
  generalize w7.alloc (.cells (ndc vk vn vbA vbn vbc vaA van vac vt vg vkA vkn vkc) 28) = w8 at b8v k78 ⊢
  obtain ⟨g7, hg7⟩ : ∃ g7, w7.heap.size = g7 := ⟨_, rfl⟩
  rw [hg7] at b8v ⊢
  have k68 := k7.trans k78
  have b8 := b6.kept k68
  have b8x := b6x.kept k68
  have zok8 := zok6.kept k68
  have xok8 := XOK.out.kept k68
  have vok8 := vok.kept k78
  have K8 := K6.trans k68
  clear hg7 b6 b6x zok6 XOK vok K6 k7 k78 k68 HR
  have d0 : w8.cell? ⟨g1, 0, none⟩ = some (.int .i64 zk) := b8.cell 0
  have d1 : w8.cell? ⟨g1, 1, none⟩ = some (.string zn.u) := b8.cell 1
  have d2 : w8.cell? ⟨g1, 2, none⟩ = some (.string zn.l) := b8.cell 2
  have d3 : w8.cell? ⟨g1, 3, none⟩ = some (.string zn.p) := b8.cell 3
  have d4 : w8.cell? ⟨g1, 4, none⟩ = some (.slice zbA zbn zbc) := b8.cell 4
  have d5 : w8.cell? ⟨g1, 5, none⟩ = some (.slice zaA zan zac) := b8.cell 5
  have d6 : w8.cell? ⟨g1, 6, none⟩ = some (.string zt) := b8.cell 6
  have d7 : w8.cell? ⟨g1, 7, none⟩ = some (.string zg) := b8.cell 7
  have d8 : w8.cell? ⟨g1, 8, none⟩ = some (.slice zkA zkn zkc) := b8.cell 8
  have hzs : Small (Nd.mk zk zn zbA zbn zbc zbs zaA zan zac zal zt zg zkA zkn zkc zks).tr := by
    rw [HZX.out]
    exact HS.out
  have HO := Lib.hid (ours_any (Nd.mk zk zn zbA zbn zbc zbs zaA zan zac zal zt zg zkA zkn zkc zks) w8 zok8 hzs)
  clear hzs
  go_wp2_with fail
  refine HO.out.mono ?_
  rintro e w9 ⟨⟨uk, un, ubA, ubn, ubc, ubs, uaA, uan, uac, ual, ut, ug, ukA, ukn, ukc, uks⟩, rfl, uok, utr, _, k9⟩
  have huk := kids_of (x := (Nd.mk uk un ubA ubn ubc ubs uaA uan uac ual ut ug ukA ukn ukc uks)) rfl
  rw [utr, HZX.out] at huk
  obtain ⟨_, _, huS, huN⟩ := uok.parts
  have hulen := huS.llen Nd.cells_len (by omega)
  have hu100 : ukn ≤ 100 := by
    have h1 := (small_kids HS.out).1
    rw [huk, List.length_map] at h1
    omega
  have HEL := Lib.hid (elements_any uk un ubA ubn ubc uaA uan uac ut ug ukA ukn ukc uks w9 ⟨huS, huN⟩ (by omega))
  rw [← huk] at HEL
  rw [Nd.val_mk]
  clear huk uok utr huS huN hulen hu100 HO d0 d1 d2 d3 d4 d5 d6 d7 d8
  go_wp2_with fail
  refine HEL.out.mono ?_
  rintro e w10 ⟨EA, ec, m, hm, rfl, hE, k10⟩
  have k810 := k9.trans k10
  have b10 := b8.kept k810
  have b10x := b8x.kept k810
  have b10v := b8v.kept k810
  have Z10 := Lib.hid (zok8.kept k810)
  have X10 := Lib.hid (xok8.kept k810)
  have V10 := Lib.hid (vok8.kept k810)
  have K10 := K8.trans k810
  have hec := hE.cap
  have hem := hE.max
  have HM := Lib.hid hm
  clear b8 b8x b8v zok8 xok8 vok8 K8 k9 k10 k810 HEL hm
  obtain ⟨_, _, hzS0, hzN0⟩ := Z10.out.parts
  have hzlen := hzS0.llen Nd.cells_len (by omega)
  have hz100 : zkn ≤ 100 := by
    have h1 := (small_kids HS.out).1
    rw [HZK.out, List.length_map] at h1
    omega
  have HZL := Lib.hid hzlen
  have hm100 : m ≤ 100 := by
    have h1 := els_len X.kids 0
    have h2 := HM.out
    rw [HZK.out, List.length_map] at h1
    rw [HZK.out] at h2
    omega
  clear hzS0 hzN0 hzlen
  go_wp2_with fail
  go_loopw [9, 33] (fun v i wr => ∃ j : Nat, j ≤ m ∧ i = .int .i64 j ∧ v = .int .i64 j ∧ Kept w10 wr) (fun _ i _ => m - (intOf i).toNat)
  case atStart => exact ⟨0, Nat.zero_le _, rfl, rfl, Kept.refl _⟩
  case round =>
    obtain ⟨j, hj, rfl, rfl, hkept⟩ := hrel
    have bw := (b10.kept hkept).cell
    have HKD : Hid (∀ w', Kept wr w' → Calls Try.prog 20 #[.agg #[.int .i64 zk, .string zn.u, .string zn.l, .string zn.p, .slice zbA zbn zbc, .slice zaA zan zac, .string zt, .string zg, .slice zkA zkn zkc], .int .i64 j] w' fun e w'' => e = .returned (.int .i64 (kidI (kidT X.kids (j : Nat)))) ∧ Kept w' w'') := by
      intro w' kk
      obtain ⟨_, _, hzS, hzN⟩ := (Z10.out.kept (hkept.trans kk)).parts
      have h1 := rkid_any zk zn zbA zbn zbc zaA zan zac zt zg zkA zkn zkc zks (j : Nat) w' ⟨hzS, hzN⟩ (by omega) (by omega)
      rw [← HZK.out] at h1
      exact h1
    have d0 : wr.cell? ⟨g1, 0, none⟩ = some (.int .i64 zk) := bw 0
    have d1 : wr.cell? ⟨g1, 1, none⟩ = some (.string zn.u) := bw 1
    have d2 : wr.cell? ⟨g1, 2, none⟩ = some (.string zn.l) := bw 2
    have d3 : wr.cell? ⟨g1, 3, none⟩ = some (.string zn.p) := bw 3
    have d4 : wr.cell? ⟨g1, 4, none⟩ = some (.slice zbA zbn zbc) := bw 4
    have d5 : wr.cell? ⟨g1, 5, none⟩ = some (.slice zaA zan zac) := bw 5
    have d6 : wr.cell? ⟨g1, 6, none⟩ = some (.string zt) := bw 6
    have d7 : wr.cell? ⟨g1, 7, none⟩ = some (.string zg) := bw 7
    have d8 : wr.cell? ⟨g1, 8, none⟩ = some (.slice zkA zkn zkc) := bw 8
    clear bw
    by_cases hlt : j < m
    · obtain ⟨eb, eo, q, rfl, hq, e0, heb⟩ := (hE.kept hkept).oneb (enc := fun i : Nat => Value.int .i64 (i : Int)) hlt
      have e0' : wr.cell? ⟨eb, eo + j, none⟩ = some (.int .i64 (q : Int)) := e0
      obtain ⟨hk1, hk2, xk0, hk3, hk4⟩ := els_one hq
      obtain ⟨_, _, hzS, hzN⟩ := (Z10.out.kept hkept).parts
      have hqn : q < zkn := by
        have h1 := HZL.out
        rw [HZK.out, List.length_map] at hk2
        omega
      obtain ⟨yb, yo, rk, rn, rbA, rbn, rbc, rbs, raA, ran, rac, ral, rt, rg, rkA, rkn, rkc, rks, rfl, hy, r0, r1, r2, r3, r4, r5, r6, r7, r8, hyb⟩ := cells9 hzS hqn
      have hyt := map_get (f := Nd.tr) hy
      rw [← HZK.out, hk3] at hyt
      injection hyt with hyt
      rw [hyt, Nd.kind_tr] at hk4
      obtain rfl : rk = 2 := hk4
      rw [hk1] at HKD
      have l1 : (q : Int) < zkn := by omega
      have l2 : ¬ (zkn : Int) ≤ q := by omega
      have l3 : (0 : Int) ≤ q := by omega
      have l4 : ¬ (q : Int) < 0 := by omega
      have d8' : wr.cell? ⟨g1, 8, none⟩ = some (.slice (some ⟨yb, yo, none⟩) zkn zkc) := d8
      clear e0 hq hk1 hk2 hk3 hyt hy hzS hzN r1 r2 r3 r4 r5 r6 r7 r8
      go_wp2_with fail
      refine (HKD.out _ (Kept.refl wr)).mono ?_
      rintro e w11 ⟨rfl, k11⟩
      go_wp2_with fail
      go_roundw
      case rel => exact ⟨j + 1, hlt, by go_num, by go_num, hkept.trans k11⟩
      case measure =>
        simp [intOf]
        omega
    · obtain rfl : j = m := by omega
      have hke : kidI (kidT X.kids (j : Nat)) = -1 := by
        have := HM.out
        rw [this]
        exact els_end
      rw [hke] at HKD
      clear hke
      have bwx := (b10x.kept hkept).cell
      have bwv := (b10v.kept hkept).cell
      have HPL : Hid (∀ w', Kept wr w' → Calls Try.prog 12 #[.agg #[.int .i64 xk, .string xn.u, .string xn.l, .string xn.p, .slice xbA xbn xbc, .slice xaA xan xac, .string xt, .string xg, .slice xkA xkn xkc]] w' fun e w'' =>
          ∃ pk pn pbA pbn pbc pbs paA pan pac pal pt pg pkA pkn pkc pks, e = .returned (.agg #[.int .i64 pk, .string (Nm.u pn), .string (Nm.l pn), .string (Nm.p pn), .slice pbA pbn pbc, .slice paA pan pac, .string pt, .string pg, .slice pkA pkn pkc]) ∧ Hid ((Nd.mk pk pn pbA pbn pbc pbs paA pan pac pal pt pg pkA pkn pkc pks).ok w'' ∧ (Nd.mk pk pn pbA pbn pbc pbs paA pan pac pal pt pg pkA pkn pkc pks).tr = (Nd.mk vk vn vbA vbn vbc vbs vaA van vac val vt vg vkA vkn vkc vks).tr) ∧ Kept wr w'') := by
        intro w' kk
        refine (plain_any (Nd.mk xk xn xbA xbn xbc xbs xaA xan xac xal xt xg xkA xkn xkc xks) w' (X10.out.kept (hkept.trans kk)) HXV.out.2).mono ?_
        rintro e w2 ⟨⟨pk, pn, pbA, pbn, pbc, pbs, paA, pan, pac, pal, pt, pg, pkA, pkn, pkc, pks⟩, rfl, h1, h2, _, h3⟩
        exact ⟨pk, pn, pbA, pbn, pbc, pbs, paA, pan, pac, pal, pt, pg, pkA, pkn, pkc, pks, rfl, ⟨h1, h2.trans HXV.out.1⟩, kk.trans h3⟩
      have HSM : Hid (∀ pk pn pbA pbn pbc pbs paA pan pac pal pt pg pkA pkn pkc pks (w' : World), Hid ((Nd.mk pk pn pbA pbn pbc pbs paA pan pac pal pt pg pkA pkn pkc pks).ok w' ∧ (Nd.mk pk pn pbA pbn pbc pbs paA pan pac pal pt pg pkA pkn pkc pks).tr = (Nd.mk vk vn vbA vbn vbc vbs vaA van vac val vt vg vkA vkn vkc vks).tr) → Kept wr w' → Calls Try.prog 11 #[.agg #[.int .i64 pk, .string (Nm.u pn), .string (Nm.l pn), .string (Nm.p pn), .slice pbA pbn pbc, .slice paA pan pac, .string pt, .string pg, .slice pkA pkn pkc], .agg #[.int .i64 vk, .string vn.u, .string vn.l, .string vn.p, .slice vbA vbn vbc, .slice vaA van vac, .string vt, .string vg, .slice vkA vkn vkc]] w' fun e w'' => e = .returned (.bool true) ∧ Kept w' w'') := by
        intro pk pn pbA pbn pbc pbs paA pan pac pal pt pg pkA pkn pkc pks w' hu kk
        have h1 := rsame_any (Nd.mk pk pn pbA pbn pbc pbs paA pan pac pal pt pg pkA pkn pkc pks) (Nd.mk vk vn vbA vbn vbc vbs vaA van vac val vt vg vkA vkn vkc vks) w' hu.out.1 (V10.out.kept (hkept.trans kk))
        rw [hu.out.2, sameT_self] at h1
        exact h1
      have x0 : wr.cell? ⟨g5, 0, none⟩ = some (.int .i64 xk) := bwx 0
      have x1 : wr.cell? ⟨g5, 1, none⟩ = some (.string xn.u) := bwx 1
      have x2 : wr.cell? ⟨g5, 2, none⟩ = some (.string xn.l) := bwx 2
      have x3 : wr.cell? ⟨g5, 3, none⟩ = some (.string xn.p) := bwx 3
      have x4 : wr.cell? ⟨g5, 4, none⟩ = some (.slice xbA xbn xbc) := bwx 4
      have x5 : wr.cell? ⟨g5, 5, none⟩ = some (.slice xaA xan xac) := bwx 5
      have x6 : wr.cell? ⟨g5, 6, none⟩ = some (.string xt) := bwx 6
      have x7 : wr.cell? ⟨g5, 7, none⟩ = some (.string xg) := bwx 7
      have x8 : wr.cell? ⟨g5, 8, none⟩ = some (.slice xkA xkn xkc) := bwx 8
      have v0 : wr.cell? ⟨g7, 0, none⟩ = some (.int .i64 vk) := bwv 0
      have v1 : wr.cell? ⟨g7, 1, none⟩ = some (.string vn.u) := bwv 1
      have v2 : wr.cell? ⟨g7, 2, none⟩ = some (.string vn.l) := bwv 2
      have v3 : wr.cell? ⟨g7, 3, none⟩ = some (.string vn.p) := bwv 3
      have v4 : wr.cell? ⟨g7, 4, none⟩ = some (.slice vbA vbn vbc) := bwv 4
      have v5 : wr.cell? ⟨g7, 5, none⟩ = some (.slice vaA van vac) := bwv 5
      have v6 : wr.cell? ⟨g7, 6, none⟩ = some (.string vt) := bwv 6
      have v7 : wr.cell? ⟨g7, 7, none⟩ = some (.string vg) := bwv 7
      have v8 : wr.cell? ⟨g7, 8, none⟩ = some (.slice vkA vkn vkc) := bwv 8
      have MK : Hid (∀ w', Kept wr w' → w'.cell? ⟨g1, 0, none⟩ = some (.int .i64 zk) ∧ w'.cell? ⟨g1, 1, none⟩ = some (.string zn.u) ∧ w'.cell? ⟨g1, 2, none⟩ = some (.string zn.l) ∧ w'.cell? ⟨g1, 3, none⟩ = some (.string zn.p) ∧ w'.cell? ⟨g1, 4, none⟩ = some (.slice zbA zbn zbc) ∧ w'.cell? ⟨g1, 5, none⟩ = some (.slice zaA zan zac) ∧ w'.cell? ⟨g1, 6, none⟩ = some (.string zt) ∧ w'.cell? ⟨g1, 7, none⟩ = some (.string zg) ∧ w'.cell? ⟨g1, 8, none⟩ = some (.slice zkA zkn zkc) ∧ w'.cell? ⟨g5, 0, none⟩ = some (.int .i64 xk) ∧ w'.cell? ⟨g5, 1, none⟩ = some (.string xn.u) ∧ w'.cell? ⟨g5, 2, none⟩ = some (.string xn.l) ∧ w'.cell? ⟨g5, 3, none⟩ = some (.string xn.p) ∧ w'.cell? ⟨g5, 4, none⟩ = some (.slice xbA xbn xbc) ∧ w'.cell? ⟨g5, 5, none⟩ = some (.slice xaA xan xac) ∧ w'.cell? ⟨g5, 6, none⟩ = some (.string xt) ∧ w'.cell? ⟨g5, 7, none⟩ = some (.string xg) ∧ w'.cell? ⟨g5, 8, none⟩ = some (.slice xkA xkn xkc) ∧ w'.cell? ⟨g7, 0, none⟩ = some (.int .i64 vk) ∧ w'.cell? ⟨g7, 1, none⟩ = some (.string vn.u) ∧ w'.cell? ⟨g7, 2, none⟩ = some (.string vn.l) ∧ w'.cell? ⟨g7, 3, none⟩ = some (.string vn.p) ∧ w'.cell? ⟨g7, 4, none⟩ = some (.slice vbA vbn vbc) ∧ w'.cell? ⟨g7, 5, none⟩ = some (.slice vaA van vac) ∧ w'.cell? ⟨g7, 6, none⟩ = some (.string vt) ∧ w'.cell? ⟨g7, 7, none⟩ = some (.string vg) ∧ w'.cell? ⟨g7, 8, none⟩ = some (.slice vkA vkn vkc)) :=
        fun w' kk => ⟨kk.cell d0, kk.cell d1, kk.cell d2, kk.cell d3, kk.cell d4, kk.cell d5, kk.cell d6, kk.cell d7, kk.cell d8, kk.cell x0, kk.cell x1, kk.cell x2, kk.cell x3, kk.cell x4, kk.cell x5, kk.cell x6, kk.cell x7, kk.cell x8, kk.cell v0, kk.cell v1, kk.cell v2, kk.cell v3, kk.cell v4, kk.cell v5, kk.cell v6, kk.cell v7, kk.cell v8⟩
      clear bwx bwv d0 d1 d2 d3 d4 d5 d6 d7 d8 x0 x1 x2 x3 x4 x5 x6 x7 x8 v0 v1 v2 v3 v4 v5 v6 v7 v8
      go_upto_region 12 with fail
      go_region_held3 (fun w' => w'.cell? ⟨g1, 0, none⟩ = some (.int .i64 zk) ∧ w'.cell? ⟨g1, 1, none⟩ = some (.string zn.u) ∧ w'.cell? ⟨g1, 2, none⟩ = some (.string zn.l) ∧ w'.cell? ⟨g1, 3, none⟩ = some (.string zn.p) ∧ w'.cell? ⟨g1, 4, none⟩ = some (.slice zbA zbn zbc) ∧ w'.cell? ⟨g1, 5, none⟩ = some (.slice zaA zan zac) ∧ w'.cell? ⟨g1, 6, none⟩ = some (.string zt) ∧ w'.cell? ⟨g1, 7, none⟩ = some (.string zg) ∧ w'.cell? ⟨g1, 8, none⟩ = some (.slice zkA zkn zkc) ∧ w'.cell? ⟨g5, 0, none⟩ = some (.int .i64 xk) ∧ w'.cell? ⟨g5, 1, none⟩ = some (.string xn.u) ∧ w'.cell? ⟨g5, 2, none⟩ = some (.string xn.l) ∧ w'.cell? ⟨g5, 3, none⟩ = some (.string xn.p) ∧ w'.cell? ⟨g5, 4, none⟩ = some (.slice xbA xbn xbc) ∧ w'.cell? ⟨g5, 5, none⟩ = some (.slice xaA xan xac) ∧ w'.cell? ⟨g5, 6, none⟩ = some (.string xt) ∧ w'.cell? ⟨g5, 7, none⟩ = some (.string xg) ∧ w'.cell? ⟨g5, 8, none⟩ = some (.slice xkA xkn xkc) ∧ w'.cell? ⟨g7, 0, none⟩ = some (.int .i64 vk) ∧ w'.cell? ⟨g7, 1, none⟩ = some (.string vn.u) ∧ w'.cell? ⟨g7, 2, none⟩ = some (.string vn.l) ∧ w'.cell? ⟨g7, 3, none⟩ = some (.string vn.p) ∧ w'.cell? ⟨g7, 4, none⟩ = some (.slice vbA vbn vbc) ∧ w'.cell? ⟨g7, 5, none⟩ = some (.slice vaA van vac) ∧ w'.cell? ⟨g7, 6, none⟩ = some (.string vt) ∧ w'.cell? ⟨g7, 7, none⟩ = some (.string vg) ∧ w'.cell? ⟨g7, 8, none⟩ = some (.slice vkA vkn vkc))
        (first | (with_reducible exact MK.out _ kw4) | (with_reducible exact MK.out _ kw3) | (with_reducible exact MK.out _ kw2) | (with_reducible exact MK.out _ kw1) | (with_reducible exact MK.out _ (Kept.refl wr).drew))
        (first
        | (go_at_call 12; refine (HPL.out _ (Kept.refl wr).drew).mono ?_; rintro e wa ⟨pk, pn, pbA, pbn, pbc, pbs, paA, pan, pac, pal, pt, pg, pkA, pkn, pkc, pks, rfl, hu, kw1⟩)
        | (go_at_call 11; refine (HSM.out pk pn pbA pbn pbc pbs paA pan pac pal pt pg pkA pkn pkc pks _ hu kw1).mono ?_; rintro e wb ⟨rfl, kb⟩; have kw2 : Kept wr wb := kw1.trans kb)
        | (go_at_call 20; refine (HKD.out _ kw2).mono ?_; rintro e wc2 ⟨rfl, kc2⟩; have kw3 : Kept wr wc2 := kw2.trans kc2)
        | (go_at_call 15; refine (infAwake_any _).mono ?_; rintro e wd ⟨rfl, kd⟩; have kw4 : Kept wr wd := kw3.trans kd))
      all_goals
        go_wp2_with fail
        go_ret
        exact ⟨rfl, (K10.trans hkept).trans kw4⟩
end Go.Proofs.Ytnlncamiaddhfaa
