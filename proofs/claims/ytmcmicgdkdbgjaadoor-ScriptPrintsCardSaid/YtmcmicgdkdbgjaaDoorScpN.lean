/- The law ScriptPrints: walked (printed by wip/gen/gen_scpn.py). -/
import Derived.Test.YtmcmicgdkdbgjaaDoorScpM
import Derived.Test.YtmcmicgdkdbgjaaDoorScrU
namespace Go.Proofs.YtmcmicgdkdbgjaaDoor
open Go.RowKit
attribute [local go_sem ↓] Go.wp_at_zero Go.wp_at_succ

theorem appT_dop : AppT Tryd.prog 31 38 6 := appT_mk (z := .agg #[.int .i64 0, .slice none 0 0, .slice none 0 0, .int .i64 0, .string ⟨#[]⟩, .string ⟨#[]⟩]) (bytes := 96) Tryd.underlying31 (by kernel_rfl) rfl (by omega) (by omega)
theorem size_app1 (T LS : ByteArray) : (T ++ LS ++ ⟨#[10]⟩ : ByteArray).size = T.size + LS.size + 1 := by
  rw [ByteArray.size_append, ByteArray.size_append]
  rfl
theorem list_app1 (T LS : ByteArray) : (T ++ LS ++ ⟨#[10]⟩ : ByteArray).toList = T.toList ++ (LS.toList ++ [10]) := by
  rw [toList_app, toList_app, ByteArray.toList_eq ⟨#[10]⟩, List.append_assoc]
set_option maxRecDepth 100000 in
set_option maxHeartbeats 16000000 in
theorem scriptPrints_any (A0 : Option Addr) (n0 c0 : Nat) (L : List Oi) (W : World) (h : Sl W 6 A0 n0 c0 (L.flatMap Oi.cl)) (hok : ∀ o ∈ L, o.ok W) : Calls Tryd.prog 6 #[.slice A0 n0 c0] W fun e w' => e = .returned (.bool true) ∧ Kept W w' := by
  have hcap := h.cap
  have hmax := h.max
  have HH := Lib.hid h
  have HOK := Lib.hid hok
  have HAW := Lib.hid (fun w' => awake_any w')
  have HE0 : Hid ((⟨#[]⟩ : ByteArray).toList = textB []) := by
    unfold Hid
    rw [ByteArray.toList_eq]
    rfl
  clear h hok
  go_enter Tryd.func6, Tryd.ntmps6
  go_wp2_with fail
  go_loopw [3, 4, 5, 6, 19] (fun s3 s4 s5 s6 s19 wr => ∃ (k : Nat) (O : List Oi) (mb : Bool) (T : ByteArray), k ≤ n0 ∧ k ≤ 8 ∧ s19 = .int .i64 k ∧ s5 = .bool mb ∧ s6 = .string T ∧ O.length = k ∧ Pw W wr s3 s4 O O ∧ Hid (mb = O.all Oi.mayB) ∧ Hid (T.toList = textB O) ∧ Hid (T.size ≤ 100041 * k) ∧ Hid (∀ o ∈ O, o.ok W ∧ o.sm)) (fun _ _ _ _ i _ => n0 - (intOf i).toNat)
  case atStart => exact ⟨0, [], true, ⟨#[]⟩, Nat.zero_le _, Nat.zero_le _, rfl, rfl, rfl, rfl, Pw.start (Kept.refl _), rfl, HE0, by exact Nat.le_refl 0, fun o h => by cases h⟩
  case round =>
    clear HE0
    obtain ⟨k, O, mb, T, hkn, hk8, rfl, rfl, rfl, hO, hP, HM, HT, HZ, HO⟩ := hrel
    have s1 : IntKind.i64.wrap ((k : Int) + 1) = (k : Int) + 1 := IntWalk.i64_in _ (by omega)
    by_cases hlt : k < n0
    · have l1 : (k : Int) < n0 := by omega
      have l2 : (0 : Int) ≤ k := by omega
      by_cases h8 : k < 8
      · have l8 : ¬ (8 : Int) ≤ k := by omega
        obtain ⟨b, i, x, rfl, hx, x0, x1, x2, x3, x4, x5, hb⟩ := (HH.out.kept hP.k).elemi hlt
        have hxm := List.mem_of_getElem? hx
        have hox0 := HOK.out x hxm
        have hox := Oi.ok_kept hox0 hP.k
        have HS := Lib.hid (fun w' (kw : Kept wr w') => short_oi (Oi.ok_kept hox kw))
        have hyok := Oi.sh_ok hox
        have hysm := Oi.sh_sm x
        have HYW : Hid (x.sh.ok W ∧ x.sh.sm) := ⟨Oi.sh_ok hox0, hysm⟩
        obtain ⟨y, hy⟩ : ∃ y, x.sh = y := ⟨_, rfl⟩
        rw [hy] at HS hyok hysm HYW
        have HLI := Lib.hid (fun w' (kw : Kept wr w') => line_oi (Oi.ok_kept hyok kw) hysm)
        have HMY := Lib.hid (fun w' (kw : Kept wr w') => dmay_oi (Oi.ok_kept hyok kw))
        have HDL := Lib.hid (fun (hm : y.mayB = true) w' (kw : Kept wr w') => dline_oi hm (Oi.ok_kept hyok kw) hysm)
        have HLN : Hid (y.mayB = false → y.line = []) := fun h => by
          unfold Oi.line
          rw [h]
          rfl
        have hll := Oi.line_len hyok hysm
        obtain ⟨LS, hLS⟩ : ∃ LS, strB y.line = LS := ⟨_, rfl⟩
        have hlb : LS.toList = y.line := by rw [← hLS, strB_list]
        have hlz : LS.size ≤ 100040 := by
          rw [← hLS, strB_size]
          exact hll
        have HTN : Hid ((T ++ LS ++ ⟨#[10]⟩ : ByteArray).toList = textB (O ++ [y])) := by
          unfold Hid
          rw [textB_push, list_app1, HT.out, hlb]
        have HZN : Hid ((T ++ LS ++ ⟨#[10]⟩ : ByteArray).size ≤ 100041 * (k + 1)) := by
          unfold Hid
          rw [size_app1]
          have := HZ.out
          omega
        have HON : Hid (∀ o ∈ O ++ [y], o.ok W ∧ o.sm) := by
          intro o ho
          rcases List.mem_append.1 ho with ho | ho
          · exact HO.out o ho
          · rw [List.mem_singleton.1 ho]
            exact HYW.out
        have HMN : Hid ((mb && y.mayB) = (O ++ [y]).all Oi.mayB) := by
          unfold Hid
          rw [all_push, HM.out]
        have hTz : T.size ≤ 800328 := by have := HZ.out; omega
        have HPW := Lib.hid hP
        have hl3 : ∀ q, u3.ownBlock = some q → q < wr.heap.size := fun q e => (hP.o3.lt q e).2
        have hl4 : ∀ q, u4.ownBlock = some q → q < wr.heap.size := fun q e => (hP.o4.lt q e).2
        have HL34 := Lib.hid (And.intro hl3 hl4)
        have hOn : O.length + 1 ≤ 4294967296 := by omega
        clear hx hxm hox0 hox hy hyok hysm HYW hll hlb HT HZ HO HM hP hl3 hl4
        obtain ⟨xk, xA, xm, xc, xp, xB, xn, xd, xq, xN, xa, xt⟩ := x
        dsimp only at HS x0 x1 x2 x3 x4 x5
        have kb : Kept wr _ := (Kept.refl wr).alloc (.cells #[.int .i64 xk, .slice xA xm xc, .slice xB xn xd, .int .i64 xN, .string xa, .string xt] 38)
        have bx := Blk.new wr #[.int .i64 xk, .slice xA xm xc, .slice xB xn xd, .int .i64 xN, .string xa, .string xt] 38
        go_upto_region 8 with fail
        generalize wr.alloc (.cells #[.int .i64 xk, .slice xA xm xc, .slice xB xn xd, .int .i64 xN, .string xa, .string xt] 38) = w3 at kb bx ⊢
        obtain ⟨g, hg⟩ : ∃ g3, wr.heap.size = g3 := ⟨_, rfl⟩
        rw [hg] at bx ⊢
        have HB3 := Lib.hid bx
        have bc := Blk.cell bx
        have y0 : w3.cell? ⟨g, 0, none⟩ = some (.int .i64 xk) := bc 0
        have y1 : w3.cell? ⟨g, 1, none⟩ = some (.slice xA xm xc) := bc 1
        have y2 : w3.cell? ⟨g, 2, none⟩ = some (.slice xB xn xd) := bc 2
        have y3 : w3.cell? ⟨g, 3, none⟩ = some (.int .i64 xN) := bc 3
        have y4 : w3.cell? ⟨g, 4, none⟩ = some (.string xa) := bc 4
        have y5 : w3.cell? ⟨g, 5, none⟩ = some (.string xt) := bc 5
        clear bc
        clear x0 x1 x2 x3 x4 x5 bx
        go_wp2_with fail
        refine (HS.out w3 kb).mono ?_
        rintro e w4 ⟨rfl, k4⟩
        have HB4 := Lib.hid (Blk.kept HB3.out k4)
        have k04 := kb.trans k4
        have fr := Blk.frozen HB4.out
        have bc := Blk.cell HB4.out
        have z0 : w4.cell? ⟨g, 0, none⟩ = some (.int .i64 xk) := bc 0
        have z1 : w4.cell? ⟨g, 1, none⟩ = some (.slice xA xm xc) := bc 1
        have z2 : w4.cell? ⟨g, 2, none⟩ = some (.slice xB xn xd) := bc 2
        have z3 : w4.cell? ⟨g, 3, none⟩ = some (.int .i64 xN) := bc 3
        have z4 : w4.cell? ⟨g, 4, none⟩ = some (.string xa) := bc 4
        have z5 : w4.cell? ⟨g, 5, none⟩ = some (.string xt) := bc 5
        clear bc
        clear y0 y1 y2 y3 y4 y5 HS HB3 k4 kb
        generalize hyl : y.line = yl at HTN HLI HDL HLN hLS
        generalize hmy : y.mayB = my at HMN HLI HMY HDL HLN
        obtain ⟨z, hz⟩ : ∃ z, y = z := ⟨_, rfl⟩
        rw [hz] at HTN HON HMN
        have HZC : Hid (z.cl = y.cl) := by rw [hz]; rfl
        have HMYL := Lib.hid hmy
        clear hyl hmy hz
        obtain ⟨yk, yA, ym, yc, yp, yB, yn, yd, yq, yN, ya, yt⟩ := y
        dsimp only at HLI HMY HDL HZC
        go_upto_region 10 with fail
        refine wp_named ?_
        intro w5 hw5
        have h5 : Blk w5 g #[.int .i64 yk, .slice yA ym yc, .slice yB yn yd, .int .i64 yN, .string ya, .string yt] 38 ∧ Kept wr w5 := op6 HB4.out k04 (by omega) (show w5 = opSet6 w4 g (.int .i64 yk) (.slice yA ym yc) (.slice yB yn yd) (.int .i64 yN) (.string ya) (.string yt) from hw5)
        clear hw5 HB4 fr z0 z1 z2 z3 z4 z5 k04
        have HB5 := Lib.hid h5.1
        have k05 := h5.2
        clear h5
        have bc := Blk.cell HB5.out
        have y0 : w5.cell? ⟨g, 0, none⟩ = some (.int .i64 yk) := bc 0
        have y1 : w5.cell? ⟨g, 1, none⟩ = some (.slice yA ym yc) := bc 1
        have y2 : w5.cell? ⟨g, 2, none⟩ = some (.slice yB yn yd) := bc 2
        have y3 : w5.cell? ⟨g, 3, none⟩ = some (.int .i64 yN) := bc 3
        have y4 : w5.cell? ⟨g, 4, none⟩ = some (.string ya) := bc 4
        have y5 : w5.cell? ⟨g, 5, none⟩ = some (.string yt) := bc 5
        clear bc
        have HOU := Lib.hid (fun w' => ours24_any yk yA ym yc yB yn yd yN ya yt w')
        go_wp2_with fail
        refine (HOU.out w5).mono ?_
        rintro e w6 ⟨rfl, k6⟩
        have k06 := k05.trans k6
        clear y0 y1 y2 y3 y4 y5
        cases my with
        | true =>
          cases mb with
          | true =>
            have HL6 : Hid (Calls Tryd.prog 17 #[.agg #[.int .i64 yk, .slice yA ym yc, .slice yB yn yd, .int .i64 yN, .string ya, .string yt]] w6 fun e w' => e = .returned (.tuple #[.string LS, .int .i64 0]) ∧ Kept w6 w') := by
              have := HLI.out w6 k06
              rw [← hLS]
              exact this
            have HD6 : Hid (∀ w', Kept wr w' → Calls Tryd.prog 20 #[.agg #[.int .i64 yk, .slice yA ym yc, .slice yB yn yd, .int .i64 yN, .string ya, .string yt]] w' fun e w'' => e = .returned (.string LS) ∧ Kept w' w'') := by
              rw [← hLS]
              exact HDL.out rfl
            clear HLI HDL HLN hLS
            go_wp2_with fail
            refine HL6.out.mono ?_
            rintro e w7 ⟨rfl, k7⟩
            have k07 := k06.trans k7
            have HB7 := Lib.hid (Blk.kept HB5.out (k6.trans k7))
            have bc := Blk.cell HB7.out
            have y0 : w7.cell? ⟨g, 0, none⟩ = some (.int .i64 yk) := bc 0
            have y1 : w7.cell? ⟨g, 1, none⟩ = some (.slice yA ym yc) := bc 1
            have y2 : w7.cell? ⟨g, 2, none⟩ = some (.slice yB yn yd) := bc 2
            have y3 : w7.cell? ⟨g, 3, none⟩ = some (.int .i64 yN) := bc 3
            have y4 : w7.cell? ⟨g, 4, none⟩ = some (.string ya) := bc 4
            have y5 : w7.cell? ⟨g, 5, none⟩ = some (.string yt) := bc 5
            clear bc
            clear HL6 HB5 k05 k6 k06 k7
            go_wp2_with fail
            refine (HMY.out w7 k07).mono ?_
            rintro e w8 ⟨rfl, k8⟩
            have k08 := k07.trans k8
            have HB8 := Lib.hid (Blk.kept HB7.out k8)
            clear y0 y1 y2 y3 y4 y5
            have bc := Blk.cell HB8.out
            have y0 : w8.cell? ⟨g, 0, none⟩ = some (.int .i64 yk) := bc 0
            have y1 : w8.cell? ⟨g, 1, none⟩ = some (.slice yA ym yc) := bc 1
            have y2 : w8.cell? ⟨g, 2, none⟩ = some (.slice yB yn yd) := bc 2
            have y3 : w8.cell? ⟨g, 3, none⟩ = some (.int .i64 yN) := bc 3
            have y4 : w8.cell? ⟨g, 4, none⟩ = some (.string ya) := bc 4
            have y5 : w8.cell? ⟨g, 5, none⟩ = some (.string yt) := bc 5
            clear bc
            clear HB7 k07 k8
            go_wp2_with fail
            refine (HD6.out w8 k08).mono ?_
            rintro e w9 ⟨rfl, k9⟩
            have k09 := k08.trans k9
            have HB9 := Lib.hid (Blk.kept HB8.out k9)
            clear y0 y1 y2 y3 y4 y5
            have bc := Blk.cell HB9.out
            have y0 : w9.cell? ⟨g, 0, none⟩ = some (.int .i64 yk) := bc 0
            have y1 : w9.cell? ⟨g, 1, none⟩ = some (.slice yA ym yc) := bc 1
            have y2 : w9.cell? ⟨g, 2, none⟩ = some (.slice yB yn yd) := bc 2
            have y3 : w9.cell? ⟨g, 3, none⟩ = some (.int .i64 yN) := bc 3
            have y4 : w9.cell? ⟨g, 4, none⟩ = some (.string ya) := bc 4
            have y5 : w9.cell? ⟨g, 5, none⟩ = some (.string yt) := bc 5
            clear bc
            clear HB8 k08 k9
            go_wp2_with fail
            refine (HMY.out w9 k09).mono ?_
            rintro e wa ⟨rfl, ka⟩
            have k0a := k09.trans ka
            have HBa := Lib.hid (Blk.kept HB9.out ka)
            clear y0 y1 y2 y3 y4 y5
            have bc := Blk.cell HBa.out
            have y0 : wa.cell? ⟨g, 0, none⟩ = some (.int .i64 yk) := bc 0
            have y1 : wa.cell? ⟨g, 1, none⟩ = some (.slice yA ym yc) := bc 1
            have y2 : wa.cell? ⟨g, 2, none⟩ = some (.slice yB yn yd) := bc 2
            have y3 : wa.cell? ⟨g, 3, none⟩ = some (.int .i64 yN) := bc 3
            have y4 : wa.cell? ⟨g, 4, none⟩ = some (.string ya) := bc 4
            have y5 : wa.cell? ⟨g, 5, none⟩ = some (.string yt) := bc 5
            clear bc
            clear HB9 k09 ka
            go_wp2_with fail
            refine (HMY.out wa k0a).mono ?_
            rintro e wb ⟨rfl, kb⟩
            have k0b := k0a.trans kb
            have HBb := Lib.hid (Blk.kept HBa.out kb)
            clear y0 y1 y2 y3 y4 y5
            have bc := Blk.cell HBb.out
            have y0 : wb.cell? ⟨g, 0, none⟩ = some (.int .i64 yk) := bc 0
            have y1 : wb.cell? ⟨g, 1, none⟩ = some (.slice yA ym yc) := bc 1
            have y2 : wb.cell? ⟨g, 2, none⟩ = some (.slice yB yn yd) := bc 2
            have y3 : wb.cell? ⟨g, 3, none⟩ = some (.int .i64 yN) := bc 3
            have y4 : wb.cell? ⟨g, 4, none⟩ = some (.string ya) := bc 4
            have y5 : wb.cell? ⟨g, 5, none⟩ = some (.string yt) := bc 5
            clear bc
            clear HBa k0a kb
            go_wp2_with fail
            refine (HOU.out wb).mono ?_
            rintro e wc ⟨rfl, kc⟩
            have k0c := k0b.trans kc
            have HBc := Lib.hid (Blk.kept HBb.out kc)
            have hPc := HPW.out.kept k0c
            have hoc := hPc.o3
            have hkc := hPc.k
            clear y0 y1 y2 y3 y4 y5 HBb k0b kc hPc
            go_upto_region 16 with (at_builtin; refine wpList_push W (by rfl) _ _ (by rfl) appT_ops (by rfl) hoc hkc (by rfl) ?_ ?_; (exact ⟨by rfl, by rfl, by rfl, hOn⟩); intro v3 wd hod hkd hgd hbd)
            have hPd : Pw W wd v3 u4 (O ++ [z]) O := by
              refine ((HPW.out.kept k0c).kept ((Kept.refl wc).alloc _)).push3 ?_ hkd hgd ?_
              · rw [HZC.out]
                exact hod
              · rcases hbd with h | h
                · exact .inl h
                · exact .inr ⟨_, h, by simp⟩
            have HBd : Hid (Blk wd g #[.int .i64 yk, .slice yA ym yc, .slice yB yn yd, .int .i64 yN, .string ya, .string yt] 38) := Blk.grown (HBc.out.alloc _) hgd (fun e => by
              have := HL34.out.1 g e.symm
              omega)
            have HPD := Lib.hid hPd
            have hoe := hPd.o4
            have hke := hPd.k
            clear hPd hod hkd hgd hbd hoc hkc HBc
            have bc := Blk.cell HBd.out
            have y0 : wd.cell? ⟨g, 0, none⟩ = some (.int .i64 yk) := bc 0
            have y1 : wd.cell? ⟨g, 1, none⟩ = some (.slice yA ym yc) := bc 1
            have y2 : wd.cell? ⟨g, 2, none⟩ = some (.slice yB yn yd) := bc 2
            have y3 : wd.cell? ⟨g, 3, none⟩ = some (.int .i64 yN) := bc 3
            have y4 : wd.cell? ⟨g, 4, none⟩ = some (.string ya) := bc 4
            have y5 : wd.cell? ⟨g, 5, none⟩ = some (.string yt) := bc 5
            clear bc
            go_upto_region 17 with (at_builtin; refine wpList_push W (by rfl) _ _ (by rfl) appT_dop (by rfl) hoe hke (by rfl) ?_ ?_; (exact ⟨by rfl, by rfl, by rfl, hOn⟩); intro v4 we hof hkf hgf hbf)
            have hPe : Pw W we v3 v4 (O ++ [z]) (O ++ [z]) := by
              refine (HPD.out.kept ((Kept.refl wd).alloc _)).push4 ?_ hkf hgf ?_
              · rw [HZC.out]
                exact hof
              · rcases hbf with h | h
                · exact .inl h
                · exact .inr ⟨_, h, by simp⟩
            clear hof hkf hgf hbf hoe hke HPD HBd y0 y1 y2 y3 y4 y5
            go_wp2_with fail
            go_roundw
            case rel => exact ⟨k + 1, O ++ [z], _, _, hlt, by omega, by go_num, rfl, rfl, by rw [List.length_append, List.length_singleton, hO], hPe, HMN, HTN, HZN, HON⟩
            case measure =>
              simp [intOf]
              omega
          | false =>
            have HL6 : Hid (Calls Tryd.prog 17 #[.agg #[.int .i64 yk, .slice yA ym yc, .slice yB yn yd, .int .i64 yN, .string ya, .string yt]] w6 fun e w' => e = .returned (.tuple #[.string LS, .int .i64 0]) ∧ Kept w6 w') := by
              have := HLI.out w6 k06
              rw [← hLS]
              exact this
            have HD6 : Hid (∀ w', Kept wr w' → Calls Tryd.prog 20 #[.agg #[.int .i64 yk, .slice yA ym yc, .slice yB yn yd, .int .i64 yN, .string ya, .string yt]] w' fun e w'' => e = .returned (.string LS) ∧ Kept w' w'') := by
              rw [← hLS]
              exact HDL.out rfl
            clear HLI HDL HLN hLS
            go_wp2_with fail
            refine HL6.out.mono ?_
            rintro e w7 ⟨rfl, k7⟩
            have k07 := k06.trans k7
            have HB7 := Lib.hid (Blk.kept HB5.out (k6.trans k7))
            have bc := Blk.cell HB7.out
            have y0 : w7.cell? ⟨g, 0, none⟩ = some (.int .i64 yk) := bc 0
            have y1 : w7.cell? ⟨g, 1, none⟩ = some (.slice yA ym yc) := bc 1
            have y2 : w7.cell? ⟨g, 2, none⟩ = some (.slice yB yn yd) := bc 2
            have y3 : w7.cell? ⟨g, 3, none⟩ = some (.int .i64 yN) := bc 3
            have y4 : w7.cell? ⟨g, 4, none⟩ = some (.string ya) := bc 4
            have y5 : w7.cell? ⟨g, 5, none⟩ = some (.string yt) := bc 5
            clear bc
            clear HL6 HB5 k05 k6 k06 k7
            go_wp2_with fail
            refine (HMY.out w7 k07).mono ?_
            rintro e w8 ⟨rfl, k8⟩
            have k08 := k07.trans k8
            have HB8 := Lib.hid (Blk.kept HB7.out k8)
            clear y0 y1 y2 y3 y4 y5
            have bc := Blk.cell HB8.out
            have y0 : w8.cell? ⟨g, 0, none⟩ = some (.int .i64 yk) := bc 0
            have y1 : w8.cell? ⟨g, 1, none⟩ = some (.slice yA ym yc) := bc 1
            have y2 : w8.cell? ⟨g, 2, none⟩ = some (.slice yB yn yd) := bc 2
            have y3 : w8.cell? ⟨g, 3, none⟩ = some (.int .i64 yN) := bc 3
            have y4 : w8.cell? ⟨g, 4, none⟩ = some (.string ya) := bc 4
            have y5 : w8.cell? ⟨g, 5, none⟩ = some (.string yt) := bc 5
            clear bc
            clear HB7 k07 k8
            go_wp2_with fail
            refine (HD6.out w8 k08).mono ?_
            rintro e w9 ⟨rfl, k9⟩
            have k09 := k08.trans k9
            have HB9 := Lib.hid (Blk.kept HB8.out k9)
            clear y0 y1 y2 y3 y4 y5
            have bc := Blk.cell HB9.out
            have y0 : w9.cell? ⟨g, 0, none⟩ = some (.int .i64 yk) := bc 0
            have y1 : w9.cell? ⟨g, 1, none⟩ = some (.slice yA ym yc) := bc 1
            have y2 : w9.cell? ⟨g, 2, none⟩ = some (.slice yB yn yd) := bc 2
            have y3 : w9.cell? ⟨g, 3, none⟩ = some (.int .i64 yN) := bc 3
            have y4 : w9.cell? ⟨g, 4, none⟩ = some (.string ya) := bc 4
            have y5 : w9.cell? ⟨g, 5, none⟩ = some (.string yt) := bc 5
            clear bc
            clear HB8 k08 k9
            go_wp2_with fail
            refine (HMY.out w9 k09).mono ?_
            rintro e wa ⟨rfl, ka⟩
            have k0a := k09.trans ka
            have HBa := Lib.hid (Blk.kept HB9.out ka)
            clear y0 y1 y2 y3 y4 y5
            have bc := Blk.cell HBa.out
            have y0 : wa.cell? ⟨g, 0, none⟩ = some (.int .i64 yk) := bc 0
            have y1 : wa.cell? ⟨g, 1, none⟩ = some (.slice yA ym yc) := bc 1
            have y2 : wa.cell? ⟨g, 2, none⟩ = some (.slice yB yn yd) := bc 2
            have y3 : wa.cell? ⟨g, 3, none⟩ = some (.int .i64 yN) := bc 3
            have y4 : wa.cell? ⟨g, 4, none⟩ = some (.string ya) := bc 4
            have y5 : wa.cell? ⟨g, 5, none⟩ = some (.string yt) := bc 5
            clear bc
            clear HB9 k09 ka
            go_wp2_with fail
            refine (HOU.out wa).mono ?_
            rintro e wc ⟨rfl, kc⟩
            have k0c := k0a.trans kc
            have HBc := Lib.hid (Blk.kept HBa.out kc)
            have hPc := HPW.out.kept k0c
            have hoc := hPc.o3
            have hkc := hPc.k
            clear y0 y1 y2 y3 y4 y5 HBa k0a kc hPc
            go_upto_region 16 with (at_builtin; refine wpList_push W (by rfl) _ _ (by rfl) appT_ops (by rfl) hoc hkc (by rfl) ?_ ?_; (exact ⟨by rfl, by rfl, by rfl, hOn⟩); intro v3 wd hod hkd hgd hbd)
            have hPd : Pw W wd v3 u4 (O ++ [z]) O := by
              refine ((HPW.out.kept k0c).kept ((Kept.refl wc).alloc _)).push3 ?_ hkd hgd ?_
              · rw [HZC.out]
                exact hod
              · rcases hbd with h | h
                · exact .inl h
                · exact .inr ⟨_, h, by simp⟩
            have HBd : Hid (Blk wd g #[.int .i64 yk, .slice yA ym yc, .slice yB yn yd, .int .i64 yN, .string ya, .string yt] 38) := Blk.grown (HBc.out.alloc _) hgd (fun e => by
              have := HL34.out.1 g e.symm
              omega)
            have HPD := Lib.hid hPd
            have hoe := hPd.o4
            have hke := hPd.k
            clear hPd hod hkd hgd hbd hoc hkc HBc
            have bc := Blk.cell HBd.out
            have y0 : wd.cell? ⟨g, 0, none⟩ = some (.int .i64 yk) := bc 0
            have y1 : wd.cell? ⟨g, 1, none⟩ = some (.slice yA ym yc) := bc 1
            have y2 : wd.cell? ⟨g, 2, none⟩ = some (.slice yB yn yd) := bc 2
            have y3 : wd.cell? ⟨g, 3, none⟩ = some (.int .i64 yN) := bc 3
            have y4 : wd.cell? ⟨g, 4, none⟩ = some (.string ya) := bc 4
            have y5 : wd.cell? ⟨g, 5, none⟩ = some (.string yt) := bc 5
            clear bc
            go_upto_region 17 with (at_builtin; refine wpList_push W (by rfl) _ _ (by rfl) appT_dop (by rfl) hoe hke (by rfl) ?_ ?_; (exact ⟨by rfl, by rfl, by rfl, hOn⟩); intro v4 we hof hkf hgf hbf)
            have hPe : Pw W we v3 v4 (O ++ [z]) (O ++ [z]) := by
              refine (HPD.out.kept ((Kept.refl wd).alloc _)).push4 ?_ hkf hgf ?_
              · rw [HZC.out]
                exact hof
              · rcases hbf with h | h
                · exact .inl h
                · exact .inr ⟨_, h, by simp⟩
            clear hof hkf hgf hbf hoe hke HPD HBd y0 y1 y2 y3 y4 y5
            go_wp2_with fail
            go_roundw
            case rel => exact ⟨k + 1, O ++ [z], _, _, hlt, by omega, by go_num, rfl, rfl, by rw [List.length_append, List.length_singleton, hO], hPe, HMN, HTN, HZN, HON⟩
            case measure =>
              simp [intOf]
              omega
        | false =>
          cases mb with
          | true =>
            have hLS2 : LS = ⟨#[]⟩ := by
              rw [← hLS, HLN.out rfl]
              rfl
            have HL6 : Hid (Calls Tryd.prog 17 #[.agg #[.int .i64 yk, .slice yA ym yc, .slice yB yn yd, .int .i64 yN, .string ya, .string yt]] w6 fun e w' => e = .returned (.tuple #[.string LS, .int .i64 1]) ∧ Kept w6 w') := by
              have := HLI.out w6 k06
              rw [hLS2]
              exact this
            have dl : (LS.toList == []) = true := by
              rw [hLS2, ByteArray.toList_eq]
              rfl
            have dm : LS.toList.isEmpty = true := by
              rw [hLS2, ByteArray.toList_eq]
              rfl
            clear hLS2
            clear HLI HDL HLN hLS
            go_wp2_with fail
            refine HL6.out.mono ?_
            rintro e w7 ⟨rfl, k7⟩
            have k07 := k06.trans k7
            have HB7 := Lib.hid (Blk.kept HB5.out (k6.trans k7))
            have bc := Blk.cell HB7.out
            have y0 : w7.cell? ⟨g, 0, none⟩ = some (.int .i64 yk) := bc 0
            have y1 : w7.cell? ⟨g, 1, none⟩ = some (.slice yA ym yc) := bc 1
            have y2 : w7.cell? ⟨g, 2, none⟩ = some (.slice yB yn yd) := bc 2
            have y3 : w7.cell? ⟨g, 3, none⟩ = some (.int .i64 yN) := bc 3
            have y4 : w7.cell? ⟨g, 4, none⟩ = some (.string ya) := bc 4
            have y5 : w7.cell? ⟨g, 5, none⟩ = some (.string yt) := bc 5
            clear bc
            clear HL6 HB5 k05 k6 k06 k7
            go_wp2_with fail
            refine (HMY.out w7 k07).mono ?_
            rintro e w8 ⟨rfl, k8⟩
            have k08 := k07.trans k8
            have HB8 := Lib.hid (Blk.kept HB7.out k8)
            clear y0 y1 y2 y3 y4 y5
            have bc := Blk.cell HB8.out
            have y0 : w8.cell? ⟨g, 0, none⟩ = some (.int .i64 yk) := bc 0
            have y1 : w8.cell? ⟨g, 1, none⟩ = some (.slice yA ym yc) := bc 1
            have y2 : w8.cell? ⟨g, 2, none⟩ = some (.slice yB yn yd) := bc 2
            have y3 : w8.cell? ⟨g, 3, none⟩ = some (.int .i64 yN) := bc 3
            have y4 : w8.cell? ⟨g, 4, none⟩ = some (.string ya) := bc 4
            have y5 : w8.cell? ⟨g, 5, none⟩ = some (.string yt) := bc 5
            clear bc
            clear HB7 k07 k8
            go_wp2_with fail
            refine (HMY.out w8 k08).mono ?_
            rintro e w9 ⟨rfl, k9⟩
            have k09 := k08.trans k9
            have HB9 := Lib.hid (Blk.kept HB8.out k9)
            clear y0 y1 y2 y3 y4 y5
            have bc := Blk.cell HB9.out
            have y0 : w9.cell? ⟨g, 0, none⟩ = some (.int .i64 yk) := bc 0
            have y1 : w9.cell? ⟨g, 1, none⟩ = some (.slice yA ym yc) := bc 1
            have y2 : w9.cell? ⟨g, 2, none⟩ = some (.slice yB yn yd) := bc 2
            have y3 : w9.cell? ⟨g, 3, none⟩ = some (.int .i64 yN) := bc 3
            have y4 : w9.cell? ⟨g, 4, none⟩ = some (.string ya) := bc 4
            have y5 : w9.cell? ⟨g, 5, none⟩ = some (.string yt) := bc 5
            clear bc
            clear HB8 k08 k9
            go_wp2_with fail
            refine (HMY.out w9 k09).mono ?_
            rintro e wb ⟨rfl, kb⟩
            have k0b := k09.trans kb
            have HBb := Lib.hid (Blk.kept HB9.out kb)
            clear y0 y1 y2 y3 y4 y5
            have bc := Blk.cell HBb.out
            have y0 : wb.cell? ⟨g, 0, none⟩ = some (.int .i64 yk) := bc 0
            have y1 : wb.cell? ⟨g, 1, none⟩ = some (.slice yA ym yc) := bc 1
            have y2 : wb.cell? ⟨g, 2, none⟩ = some (.slice yB yn yd) := bc 2
            have y3 : wb.cell? ⟨g, 3, none⟩ = some (.int .i64 yN) := bc 3
            have y4 : wb.cell? ⟨g, 4, none⟩ = some (.string ya) := bc 4
            have y5 : wb.cell? ⟨g, 5, none⟩ = some (.string yt) := bc 5
            clear bc
            clear HB9 k09 kb
            go_wp2_with fail
            refine (HOU.out wb).mono ?_
            rintro e wc ⟨rfl, kc⟩
            have k0c := k0b.trans kc
            have HBc := Lib.hid (Blk.kept HBb.out kc)
            have hPc := HPW.out.kept k0c
            have hoc := hPc.o3
            have hkc := hPc.k
            clear y0 y1 y2 y3 y4 y5 HBb k0b kc hPc
            go_upto_region 16 with (at_builtin; refine wpList_push W (by rfl) _ _ (by rfl) appT_ops (by rfl) hoc hkc (by rfl) ?_ ?_; (exact ⟨by rfl, by rfl, by rfl, hOn⟩); intro v3 wd hod hkd hgd hbd)
            have hPd : Pw W wd v3 u4 (O ++ [z]) O := by
              refine ((HPW.out.kept k0c).kept ((Kept.refl wc).alloc _)).push3 ?_ hkd hgd ?_
              · rw [HZC.out]
                exact hod
              · rcases hbd with h | h
                · exact .inl h
                · exact .inr ⟨_, h, by simp⟩
            have HBd : Hid (Blk wd g #[.int .i64 yk, .slice yA ym yc, .slice yB yn yd, .int .i64 yN, .string ya, .string yt] 38) := Blk.grown (HBc.out.alloc _) hgd (fun e => by
              have := HL34.out.1 g e.symm
              omega)
            have HPD := Lib.hid hPd
            have hoe := hPd.o4
            have hke := hPd.k
            clear hPd hod hkd hgd hbd hoc hkc HBc
            have bc := Blk.cell HBd.out
            have y0 : wd.cell? ⟨g, 0, none⟩ = some (.int .i64 yk) := bc 0
            have y1 : wd.cell? ⟨g, 1, none⟩ = some (.slice yA ym yc) := bc 1
            have y2 : wd.cell? ⟨g, 2, none⟩ = some (.slice yB yn yd) := bc 2
            have y3 : wd.cell? ⟨g, 3, none⟩ = some (.int .i64 yN) := bc 3
            have y4 : wd.cell? ⟨g, 4, none⟩ = some (.string ya) := bc 4
            have y5 : wd.cell? ⟨g, 5, none⟩ = some (.string yt) := bc 5
            clear bc
            go_upto_region 17 with (at_builtin; refine wpList_push W (by rfl) _ _ (by rfl) appT_dop (by rfl) hoe hke (by rfl) ?_ ?_; (exact ⟨by rfl, by rfl, by rfl, hOn⟩); intro v4 we hof hkf hgf hbf)
            have hPe : Pw W we v3 v4 (O ++ [z]) (O ++ [z]) := by
              refine (HPD.out.kept ((Kept.refl wd).alloc _)).push4 ?_ hkf hgf ?_
              · rw [HZC.out]
                exact hof
              · rcases hbf with h | h
                · exact .inl h
                · exact .inr ⟨_, h, by simp⟩
            clear hof hkf hgf hbf hoe hke HPD HBd y0 y1 y2 y3 y4 y5 dl dm
            go_wp2_with fail
            go_roundw
            case rel => exact ⟨k + 1, O ++ [z], _, _, hlt, by omega, by go_num, rfl, rfl, by rw [List.length_append, List.length_singleton, hO], hPe, HMN, HTN, HZN, HON⟩
            case measure =>
              simp [intOf]
              omega
          | false =>
            have hLS2 : LS = ⟨#[]⟩ := by
              rw [← hLS, HLN.out rfl]
              rfl
            have HL6 : Hid (Calls Tryd.prog 17 #[.agg #[.int .i64 yk, .slice yA ym yc, .slice yB yn yd, .int .i64 yN, .string ya, .string yt]] w6 fun e w' => e = .returned (.tuple #[.string LS, .int .i64 1]) ∧ Kept w6 w') := by
              have := HLI.out w6 k06
              rw [hLS2]
              exact this
            have dl : (LS.toList == []) = true := by
              rw [hLS2, ByteArray.toList_eq]
              rfl
            have dm : LS.toList.isEmpty = true := by
              rw [hLS2, ByteArray.toList_eq]
              rfl
            clear hLS2
            clear HLI HDL HLN hLS
            go_wp2_with fail
            refine HL6.out.mono ?_
            rintro e w7 ⟨rfl, k7⟩
            have k07 := k06.trans k7
            have HB7 := Lib.hid (Blk.kept HB5.out (k6.trans k7))
            have bc := Blk.cell HB7.out
            have y0 : w7.cell? ⟨g, 0, none⟩ = some (.int .i64 yk) := bc 0
            have y1 : w7.cell? ⟨g, 1, none⟩ = some (.slice yA ym yc) := bc 1
            have y2 : w7.cell? ⟨g, 2, none⟩ = some (.slice yB yn yd) := bc 2
            have y3 : w7.cell? ⟨g, 3, none⟩ = some (.int .i64 yN) := bc 3
            have y4 : w7.cell? ⟨g, 4, none⟩ = some (.string ya) := bc 4
            have y5 : w7.cell? ⟨g, 5, none⟩ = some (.string yt) := bc 5
            clear bc
            clear HL6 HB5 k05 k6 k06 k7
            go_wp2_with fail
            refine (HMY.out w7 k07).mono ?_
            rintro e w8 ⟨rfl, k8⟩
            have k08 := k07.trans k8
            have HB8 := Lib.hid (Blk.kept HB7.out k8)
            clear y0 y1 y2 y3 y4 y5
            have bc := Blk.cell HB8.out
            have y0 : w8.cell? ⟨g, 0, none⟩ = some (.int .i64 yk) := bc 0
            have y1 : w8.cell? ⟨g, 1, none⟩ = some (.slice yA ym yc) := bc 1
            have y2 : w8.cell? ⟨g, 2, none⟩ = some (.slice yB yn yd) := bc 2
            have y3 : w8.cell? ⟨g, 3, none⟩ = some (.int .i64 yN) := bc 3
            have y4 : w8.cell? ⟨g, 4, none⟩ = some (.string ya) := bc 4
            have y5 : w8.cell? ⟨g, 5, none⟩ = some (.string yt) := bc 5
            clear bc
            clear HB7 k07 k8
            go_wp2_with fail
            refine (HMY.out w8 k08).mono ?_
            rintro e w9 ⟨rfl, k9⟩
            have k09 := k08.trans k9
            have HB9 := Lib.hid (Blk.kept HB8.out k9)
            clear y0 y1 y2 y3 y4 y5
            have bc := Blk.cell HB9.out
            have y0 : w9.cell? ⟨g, 0, none⟩ = some (.int .i64 yk) := bc 0
            have y1 : w9.cell? ⟨g, 1, none⟩ = some (.slice yA ym yc) := bc 1
            have y2 : w9.cell? ⟨g, 2, none⟩ = some (.slice yB yn yd) := bc 2
            have y3 : w9.cell? ⟨g, 3, none⟩ = some (.int .i64 yN) := bc 3
            have y4 : w9.cell? ⟨g, 4, none⟩ = some (.string ya) := bc 4
            have y5 : w9.cell? ⟨g, 5, none⟩ = some (.string yt) := bc 5
            clear bc
            clear HB8 k08 k9
            go_wp2_with fail
            refine (HOU.out w9).mono ?_
            rintro e wc ⟨rfl, kc⟩
            have k0c := k09.trans kc
            have HBc := Lib.hid (Blk.kept HB9.out kc)
            have hPc := HPW.out.kept k0c
            have hoc := hPc.o3
            have hkc := hPc.k
            clear y0 y1 y2 y3 y4 y5 HB9 k09 kc hPc
            go_upto_region 16 with (at_builtin; refine wpList_push W (by rfl) _ _ (by rfl) appT_ops (by rfl) hoc hkc (by rfl) ?_ ?_; (exact ⟨by rfl, by rfl, by rfl, hOn⟩); intro v3 wd hod hkd hgd hbd)
            have hPd : Pw W wd v3 u4 (O ++ [z]) O := by
              refine ((HPW.out.kept k0c).kept ((Kept.refl wc).alloc _)).push3 ?_ hkd hgd ?_
              · rw [HZC.out]
                exact hod
              · rcases hbd with h | h
                · exact .inl h
                · exact .inr ⟨_, h, by simp⟩
            have HBd : Hid (Blk wd g #[.int .i64 yk, .slice yA ym yc, .slice yB yn yd, .int .i64 yN, .string ya, .string yt] 38) := Blk.grown (HBc.out.alloc _) hgd (fun e => by
              have := HL34.out.1 g e.symm
              omega)
            have HPD := Lib.hid hPd
            have hoe := hPd.o4
            have hke := hPd.k
            clear hPd hod hkd hgd hbd hoc hkc HBc
            have bc := Blk.cell HBd.out
            have y0 : wd.cell? ⟨g, 0, none⟩ = some (.int .i64 yk) := bc 0
            have y1 : wd.cell? ⟨g, 1, none⟩ = some (.slice yA ym yc) := bc 1
            have y2 : wd.cell? ⟨g, 2, none⟩ = some (.slice yB yn yd) := bc 2
            have y3 : wd.cell? ⟨g, 3, none⟩ = some (.int .i64 yN) := bc 3
            have y4 : wd.cell? ⟨g, 4, none⟩ = some (.string ya) := bc 4
            have y5 : wd.cell? ⟨g, 5, none⟩ = some (.string yt) := bc 5
            clear bc
            go_upto_region 17 with (at_builtin; refine wpList_push W (by rfl) _ _ (by rfl) appT_dop (by rfl) hoe hke (by rfl) ?_ ?_; (exact ⟨by rfl, by rfl, by rfl, hOn⟩); intro v4 we hof hkf hgf hbf)
            have hPe : Pw W we v3 v4 (O ++ [z]) (O ++ [z]) := by
              refine (HPD.out.kept ((Kept.refl wd).alloc _)).push4 ?_ hkf hgf ?_
              · rw [HZC.out]
                exact hof
              · rcases hbf with h | h
                · exact .inl h
                · exact .inr ⟨_, h, by simp⟩
            clear hof hkf hgf hbf hoe hke HPD HBd y0 y1 y2 y3 y4 y5 dl dm
            go_wp2_with fail
            go_roundw
            case rel => exact ⟨k + 1, O ++ [z], _, _, hlt, by omega, by go_num, rfl, rfl, by rw [List.length_append, List.length_singleton, hO], hPe, HMN, HTN, HZN, HON⟩
            case measure =>
              simp [intOf]
              omega
      · have l8 : (8 : Int) ≤ k := by omega
        obtain ⟨b, i, x, rfl, hx, x0, x1, x2, x3, x4, x5, hb⟩ := (HH.out.kept hP.k).elemi hlt
        clear hx
        obtain ⟨xk, xA, xm, xc, xp, xB, xn, xd, xq, xN, xa, xt⟩ := x
        dsimp only at x0 x1 x2 x3 x4 x5
        have kb : Kept wr _ := (Kept.refl wr).alloc (.cells #[.int .i64 xk, .slice xA xm xc, .slice xB xn xd, .int .i64 xN, .string xa, .string xt] 38)
        go_upto_region 8 with fail
        generalize wr.alloc (.cells #[.int .i64 xk, .slice xA xm xc, .slice xB xn xd, .int .i64 xN, .string xa, .string xt] 38) = w3 at kb ⊢
        have hP3 := hP.kept kb
        clear hP x0 x1 x2 x3 x4 x5 kb
        have hP := hP3
        clear hP3
        clear HH HOK s1
        obtain ⟨m, hm⟩ : ∃ m, O.length = m := ⟨_, rfl⟩
        obtain ⟨A3, c3, rfl, hS3⟩ := Sl.of_own hP.o3
        obtain ⟨A4, c4, rfl, hS4⟩ := Sl.of_own hP.o4
        have hPk := hP.k
        have HOW := Lib.hid (fun o ho => And.intro (Oi.ok_kept (HO.out o ho).1 hPk) (HO.out o ho).2)
        rw [hm] at hS3 hS4 ⊢
        have hc3 := hS3.cap
        have hx3 := hS3.max
        have hc4 := hS4.cap
        have hx4 := hS4.max
        have hTz : T.size ≤ 1000000 := by have := HZ.out; omega
        have HPR := Lib.hid (print_any A3 m c3 O w3 hS3 (fun o ho => (HOW.out o ho).1) (fun o ho => (HOW.out o ho).2) hm (by omega))
        have HHM := Lib.hid hm
        have HS4 := Lib.hid hS4
        have m8 : m ≤ 8 := by omega
        clear hP hS3 hS4 hm HO HZ hO
        cases mb with
        | false =>
          have HP1 : Hid (Calls Tryd.prog 21 #[.slice A3 m c3] w3 fun e w' => e = .returned (.tuple #[.string ⟨#[]⟩, .int .i64 1]) ∧ Kept w3 w') := by
            have := HPR.out
            rw [← HM.out] at this
            exact this
          clear HPR HM HOW HT HS4
          go_wp2_with fail
          refine HP1.out.mono ?_
          rintro e w2 ⟨rfl, k2⟩
          go_wp2_with fail
          refine (HAW.out _).mono ?_
          rintro e w3 ⟨rfl, k3⟩
          go_wp2_with fail
          go_ret
          exact ⟨rfl, (hPk.trans k2).trans k3⟩
        | true =>
          have HTS : Hid (strB (textF (O.map Oi.st)) = T) := by
            refine cstr_eq ?_
            rw [strB_list, HT.out, textB_all HM.out.symm]
          have HP1 : Hid (Calls Tryd.prog 21 #[.slice A3 m c3] w3 fun e w' => e = .returned (.tuple #[.string T, .int .i64 0]) ∧ Kept w3 w') := by
            have := HPR.out
            rw [← HM.out] at this
            rw [← HTS.out]
            exact this
          have HPA : Hid (∀ w', Calls Tryd.prog 11 #[.string T] w' fun e w'' => ∃ (VA : Option Addr) (VC : Nat) (L : List Ov), e = .returned (.tuple #[.slice VA m VC, .int .i64 0, .int .i64 0]) ∧ Sl w'' 6 VA m VC (L.flatMap Ov.cl) ∧ Hid (L.map Ov.st = O.map Oi.st) ∧ Hid (∀ o ∈ L, o.ok w'') ∧ Kept w' w'') := by
            intro w'
            have h1 := parse_any T w' hTz
            rw [HT.out, textB_all HM.out.symm, parse_back _ (may_all HM.out.symm HOW.out)] at h1
            refine h1.mono fun e w'' h => ?_
            obtain ⟨h1, VA, VC, L, h2, h3, h4, h5⟩ := h
            have hl : L.length = m := by
              have := congrArg List.length h4
              rw [List.length_map, List.length_map, HHM.out] at this
              exact this
            rw [hl] at h2 h3
            exact ⟨VA, VC, L, h2, h3, h4, h5, h1⟩
          have HS5 : Hid (Sl w3 6 A4 m c4 ((O.map Oi.ov).flatMap Ov.cl)) := by
            unfold Hid
            rw [← ovs_cl HM.out.symm HOW.out]
            exact HS4.out
          have HO5 : Hid (∀ o ∈ O.map Oi.ov, o.ok w3) := by
            intro o ho
            obtain ⟨o2, ho2, rfl⟩ := List.mem_map.1 ho
            exact Oi.ov_ok (List.all_eq_true.1 HM.out.symm o2 ho2) (HOW.out o2 ho2).1 (HOW.out o2 ho2).2
          have HST := Lib.hid (ovs_st O)
          have d0 : ((m : Int) != (m : Int)) = false := by simp
          have d1 : (T.toList == T.toList) = true := by simp
          generalize O.map Oi.ov = L4 at HS5 HO5 HST
          clear HPR HM HOW HT HTS HS4
          go_wp2_with fail
          refine HP1.out.mono ?_
          rintro e w2 ⟨rfl, k2⟩
          go_wp2_with fail
          refine (HPA.out _).mono ?_
          rintro e w3 ⟨VA, VC, L5, rfl, hS, HL5, HOK5, k3⟩
          have hcap5 := hS.cap
          have hmax5 := hS.max
          have hS6 := HS5.out.kept (k2.trans k3)
          have HK3 := Lib.hid (k2.trans k3)
          clear HP1 HPA HS5 k2 k3
          go_wp2_with fail
          go_loopw [124] (fun i wr => ∃ k : Nat, k ≤ m ∧ i = .int .i64 k ∧ Kept w3 wr) (fun i _ => m - (intOf i).toNat)
          case atStart => exact ⟨0, Nat.zero_le _, rfl, Kept.refl _⟩
          case round =>
            obtain ⟨k, hk, rfl, hkp⟩ := hrel
            by_cases hlt : k < m
            · obtain ⟨b, i, x, rfl, hx, x0, x1, x2, x3, x4, x5⟩ := (hS.kept hkp).elemo hlt
              obtain ⟨b', i', y, rfl, hy, y0, y1, y2, y3, y4, y5⟩ := (hS6.kept hkp).elemo hlt
              have hst : x.st = y.st := by
                have e1 : (L5.map Ov.st)[k]? = (L4.map Ov.st)[k]? := by rw [HL5.out, HST.out]
                rw [List.getElem?_map, List.getElem?_map, hx, hy] at e1
                exact Option.some.inj e1
              have hox : x.ok wr := Ov.ok_kept (HOK5.out x (List.mem_of_getElem? hx)) hkp
              have hoy : y.ok wr := Ov.ok_kept (Ov.ok_kept (HO5.out y (List.mem_of_getElem? hy)) HK3.out) hkp
              have HC : Hid (∀ p : KeptFrom wr, Calls Tryd.prog 13 #[.agg #[.int .i64 (x.k : Int), .slice x.A x.p.length x.c, .slice x.B x.q.length x.d, .int .i64 (x.n : Int), .string (strB x.a), .string (strB x.t)], .agg #[.int .i64 (y.k : Int), .slice y.A y.p.length y.c, .slice y.B y.q.length y.d, .int .i64 (y.n : Int), .string (strB y.a), .string (strB y.t)]] p.x fun e w'' => e = .returned (.bool true) ∧ Kept p.x w'') := fun p => same_any x y p.x (Ov.ok_kept hox p.k) (Ov.ok_kept hoy p.k) hst
              obtain ⟨xk, xA, xc, xp, xB, xd, xq, xn, xa, xt⟩ := x
              obtain ⟨yk, yA, yc, yp, yB, yd, yq, yn, ya, yt⟩ := y
              dsimp only at HC x0 x1 x2 x3 x4 x5 y0 y1 y2 y3 y4 y5
              have c0 : ∀ p : KeptFrom wr, p.x.cell? ⟨b, i + k * 6, none⟩ = some (.int .i64 (xk : Int)) := fun p => p.k.cell x0
              have c1 : ∀ p : KeptFrom wr, p.x.cell? ⟨b, i + k * 6 + 1, none⟩ = some (.slice xA xp.length xc) := fun p => p.k.cell x1
              have c2 : ∀ p : KeptFrom wr, p.x.cell? ⟨b, i + k * 6 + 2, none⟩ = some (.slice xB xq.length xd) := fun p => p.k.cell x2
              have c3 : ∀ p : KeptFrom wr, p.x.cell? ⟨b, i + k * 6 + 3, none⟩ = some (.int .i64 (xn : Int)) := fun p => p.k.cell x3
              have c4 : ∀ p : KeptFrom wr, p.x.cell? ⟨b, i + k * 6 + 4, none⟩ = some (.string (strB xa)) := fun p => p.k.cell x4
              have c5 : ∀ p : KeptFrom wr, p.x.cell? ⟨b, i + k * 6 + 5, none⟩ = some (.string (strB xt)) := fun p => p.k.cell x5
              have f0 : ∀ p : KeptFrom wr, p.x.cell? ⟨b', i' + k * 6, none⟩ = some (.int .i64 (yk : Int)) := fun p => p.k.cell y0
              have f1 : ∀ p : KeptFrom wr, p.x.cell? ⟨b', i' + k * 6 + 1, none⟩ = some (.slice yA yp.length yc) := fun p => p.k.cell y1
              have f2 : ∀ p : KeptFrom wr, p.x.cell? ⟨b', i' + k * 6 + 2, none⟩ = some (.slice yB yq.length yd) := fun p => p.k.cell y2
              have f3 : ∀ p : KeptFrom wr, p.x.cell? ⟨b', i' + k * 6 + 3, none⟩ = some (.int .i64 (yn : Int)) := fun p => p.k.cell y3
              have f4 : ∀ p : KeptFrom wr, p.x.cell? ⟨b', i' + k * 6 + 4, none⟩ = some (.string (strB ya)) := fun p => p.k.cell y4
              have f5 : ∀ p : KeptFrom wr, p.x.cell? ⟨b', i' + k * 6 + 5, none⟩ = some (.string (strB yt)) := fun p => p.k.cell y5
              have l1 : (0 : Int) ≤ k := by omega
              have l2 : (k : Int) < m := by omega
              have s1 : IntKind.i64.wrap ((k : Int) + 1) = (k : Int) + 1 := IntWalk.i64_in _ (by omega)
              clear x0 x1 x2 x3 x4 x5 y0 y1 y2 y3 y4 y5 hx hy hst hox hoy
              go_upto_region 27 with fail
              refine wp_region_kept (by kernel_rfl) (by kernel_rfl) ?_
              repeat (quiet_step ((go_at_call 13; with_reducible exact Calls.kept_of (HC.out _))))
              refine wpQuiet_nil ?_
              rintro w4 ⟨⟨w4', k4⟩, hw4⟩
              obtain rfl : w4 = w4' := hw4
              go_wp2_with fail
              go_roundw
              case rel => exact ⟨k + 1, hlt, by go_num, hkp.trans k4⟩
              case measure =>
                simp [intOf]
                omega
            · have l2 : ¬ (k : Int) < m := by omega
              go_wp2_with fail
              refine (HAW.out _).mono ?_
              rintro e w4 ⟨rfl, k4⟩
              go_wp2_with fail
              go_ret
              exact ⟨rfl, ((hPk.trans HK3.out).trans hkp).trans k4⟩
    · have l1 : ¬ (k : Int) < n0 := by omega
      clear HH HOK s1
      obtain ⟨m, hm⟩ : ∃ m, O.length = m := ⟨_, rfl⟩
      obtain ⟨A3, c3, rfl, hS3⟩ := Sl.of_own hP.o3
      obtain ⟨A4, c4, rfl, hS4⟩ := Sl.of_own hP.o4
      have hPk := hP.k
      have HOW := Lib.hid (fun o ho => And.intro (Oi.ok_kept (HO.out o ho).1 hPk) (HO.out o ho).2)
      rw [hm] at hS3 hS4 ⊢
      have hc3 := hS3.cap
      have hx3 := hS3.max
      have hc4 := hS4.cap
      have hx4 := hS4.max
      have hTz : T.size ≤ 1000000 := by have := HZ.out; omega
      have HPR := Lib.hid (print_any A3 m c3 O wr hS3 (fun o ho => (HOW.out o ho).1) (fun o ho => (HOW.out o ho).2) hm (by omega))
      have HHM := Lib.hid hm
      have HS4 := Lib.hid hS4
      have m8 : m ≤ 8 := by omega
      clear hP hS3 hS4 hm HO HZ hO
      cases mb with
      | false =>
        have HP1 : Hid (Calls Tryd.prog 21 #[.slice A3 m c3] wr fun e w' => e = .returned (.tuple #[.string ⟨#[]⟩, .int .i64 1]) ∧ Kept wr w') := by
          have := HPR.out
          rw [← HM.out] at this
          exact this
        clear HPR HM HOW HT HS4
        go_wp2_with fail
        refine HP1.out.mono ?_
        rintro e w2 ⟨rfl, k2⟩
        go_wp2_with fail
        refine (HAW.out _).mono ?_
        rintro e w3 ⟨rfl, k3⟩
        go_wp2_with fail
        go_ret
        exact ⟨rfl, (hPk.trans k2).trans k3⟩
      | true =>
        have HTS : Hid (strB (textF (O.map Oi.st)) = T) := by
          refine cstr_eq ?_
          rw [strB_list, HT.out, textB_all HM.out.symm]
        have HP1 : Hid (Calls Tryd.prog 21 #[.slice A3 m c3] wr fun e w' => e = .returned (.tuple #[.string T, .int .i64 0]) ∧ Kept wr w') := by
          have := HPR.out
          rw [← HM.out] at this
          rw [← HTS.out]
          exact this
        have HPA : Hid (∀ w', Calls Tryd.prog 11 #[.string T] w' fun e w'' => ∃ (VA : Option Addr) (VC : Nat) (L : List Ov), e = .returned (.tuple #[.slice VA m VC, .int .i64 0, .int .i64 0]) ∧ Sl w'' 6 VA m VC (L.flatMap Ov.cl) ∧ Hid (L.map Ov.st = O.map Oi.st) ∧ Hid (∀ o ∈ L, o.ok w'') ∧ Kept w' w'') := by
          intro w'
          have h1 := parse_any T w' hTz
          rw [HT.out, textB_all HM.out.symm, parse_back _ (may_all HM.out.symm HOW.out)] at h1
          refine h1.mono fun e w'' h => ?_
          obtain ⟨h1, VA, VC, L, h2, h3, h4, h5⟩ := h
          have hl : L.length = m := by
            have := congrArg List.length h4
            rw [List.length_map, List.length_map, HHM.out] at this
            exact this
          rw [hl] at h2 h3
          exact ⟨VA, VC, L, h2, h3, h4, h5, h1⟩
        have HS5 : Hid (Sl wr 6 A4 m c4 ((O.map Oi.ov).flatMap Ov.cl)) := by
          unfold Hid
          rw [← ovs_cl HM.out.symm HOW.out]
          exact HS4.out
        have HO5 : Hid (∀ o ∈ O.map Oi.ov, o.ok wr) := by
          intro o ho
          obtain ⟨o2, ho2, rfl⟩ := List.mem_map.1 ho
          exact Oi.ov_ok (List.all_eq_true.1 HM.out.symm o2 ho2) (HOW.out o2 ho2).1 (HOW.out o2 ho2).2
        have HST := Lib.hid (ovs_st O)
        have d0 : ((m : Int) != (m : Int)) = false := by simp
        have d1 : (T.toList == T.toList) = true := by simp
        generalize O.map Oi.ov = L4 at HS5 HO5 HST
        clear HPR HM HOW HT HTS HS4
        go_wp2_with fail
        refine HP1.out.mono ?_
        rintro e w2 ⟨rfl, k2⟩
        go_wp2_with fail
        refine (HPA.out _).mono ?_
        rintro e w3 ⟨VA, VC, L5, rfl, hS, HL5, HOK5, k3⟩
        have hcap5 := hS.cap
        have hmax5 := hS.max
        have hS6 := HS5.out.kept (k2.trans k3)
        have HK3 := Lib.hid (k2.trans k3)
        clear HP1 HPA HS5 k2 k3
        go_wp2_with fail
        go_loopw [124] (fun i wr => ∃ k : Nat, k ≤ m ∧ i = .int .i64 k ∧ Kept w3 wr) (fun i _ => m - (intOf i).toNat)
        case atStart => exact ⟨0, Nat.zero_le _, rfl, Kept.refl _⟩
        case round =>
          obtain ⟨k, hk, rfl, hkp⟩ := hrel
          by_cases hlt : k < m
          · obtain ⟨b, i, x, rfl, hx, x0, x1, x2, x3, x4, x5⟩ := (hS.kept hkp).elemo hlt
            obtain ⟨b', i', y, rfl, hy, y0, y1, y2, y3, y4, y5⟩ := (hS6.kept hkp).elemo hlt
            have hst : x.st = y.st := by
              have e1 : (L5.map Ov.st)[k]? = (L4.map Ov.st)[k]? := by rw [HL5.out, HST.out]
              rw [List.getElem?_map, List.getElem?_map, hx, hy] at e1
              exact Option.some.inj e1
            have hox : x.ok wr := Ov.ok_kept (HOK5.out x (List.mem_of_getElem? hx)) hkp
            have hoy : y.ok wr := Ov.ok_kept (Ov.ok_kept (HO5.out y (List.mem_of_getElem? hy)) HK3.out) hkp
            have HC : Hid (∀ p : KeptFrom wr, Calls Tryd.prog 13 #[.agg #[.int .i64 (x.k : Int), .slice x.A x.p.length x.c, .slice x.B x.q.length x.d, .int .i64 (x.n : Int), .string (strB x.a), .string (strB x.t)], .agg #[.int .i64 (y.k : Int), .slice y.A y.p.length y.c, .slice y.B y.q.length y.d, .int .i64 (y.n : Int), .string (strB y.a), .string (strB y.t)]] p.x fun e w'' => e = .returned (.bool true) ∧ Kept p.x w'') := fun p => same_any x y p.x (Ov.ok_kept hox p.k) (Ov.ok_kept hoy p.k) hst
            obtain ⟨xk, xA, xc, xp, xB, xd, xq, xn, xa, xt⟩ := x
            obtain ⟨yk, yA, yc, yp, yB, yd, yq, yn, ya, yt⟩ := y
            dsimp only at HC x0 x1 x2 x3 x4 x5 y0 y1 y2 y3 y4 y5
            have c0 : ∀ p : KeptFrom wr, p.x.cell? ⟨b, i + k * 6, none⟩ = some (.int .i64 (xk : Int)) := fun p => p.k.cell x0
            have c1 : ∀ p : KeptFrom wr, p.x.cell? ⟨b, i + k * 6 + 1, none⟩ = some (.slice xA xp.length xc) := fun p => p.k.cell x1
            have c2 : ∀ p : KeptFrom wr, p.x.cell? ⟨b, i + k * 6 + 2, none⟩ = some (.slice xB xq.length xd) := fun p => p.k.cell x2
            have c3 : ∀ p : KeptFrom wr, p.x.cell? ⟨b, i + k * 6 + 3, none⟩ = some (.int .i64 (xn : Int)) := fun p => p.k.cell x3
            have c4 : ∀ p : KeptFrom wr, p.x.cell? ⟨b, i + k * 6 + 4, none⟩ = some (.string (strB xa)) := fun p => p.k.cell x4
            have c5 : ∀ p : KeptFrom wr, p.x.cell? ⟨b, i + k * 6 + 5, none⟩ = some (.string (strB xt)) := fun p => p.k.cell x5
            have f0 : ∀ p : KeptFrom wr, p.x.cell? ⟨b', i' + k * 6, none⟩ = some (.int .i64 (yk : Int)) := fun p => p.k.cell y0
            have f1 : ∀ p : KeptFrom wr, p.x.cell? ⟨b', i' + k * 6 + 1, none⟩ = some (.slice yA yp.length yc) := fun p => p.k.cell y1
            have f2 : ∀ p : KeptFrom wr, p.x.cell? ⟨b', i' + k * 6 + 2, none⟩ = some (.slice yB yq.length yd) := fun p => p.k.cell y2
            have f3 : ∀ p : KeptFrom wr, p.x.cell? ⟨b', i' + k * 6 + 3, none⟩ = some (.int .i64 (yn : Int)) := fun p => p.k.cell y3
            have f4 : ∀ p : KeptFrom wr, p.x.cell? ⟨b', i' + k * 6 + 4, none⟩ = some (.string (strB ya)) := fun p => p.k.cell y4
            have f5 : ∀ p : KeptFrom wr, p.x.cell? ⟨b', i' + k * 6 + 5, none⟩ = some (.string (strB yt)) := fun p => p.k.cell y5
            have l1 : (0 : Int) ≤ k := by omega
            have l2 : (k : Int) < m := by omega
            have s1 : IntKind.i64.wrap ((k : Int) + 1) = (k : Int) + 1 := IntWalk.i64_in _ (by omega)
            clear x0 x1 x2 x3 x4 x5 y0 y1 y2 y3 y4 y5 hx hy hst hox hoy
            go_upto_region 27 with fail
            refine wp_region_kept (by kernel_rfl) (by kernel_rfl) ?_
            repeat (quiet_step ((go_at_call 13; with_reducible exact Calls.kept_of (HC.out _))))
            refine wpQuiet_nil ?_
            rintro w4 ⟨⟨w4', k4⟩, hw4⟩
            obtain rfl : w4 = w4' := hw4
            go_wp2_with fail
            go_roundw
            case rel => exact ⟨k + 1, hlt, by go_num, hkp.trans k4⟩
            case measure =>
              simp [intOf]
              omega
          · have l2 : ¬ (k : Int) < m := by omega
            go_wp2_with fail
            refine (HAW.out _).mono ?_
            rintro e w4 ⟨rfl, k4⟩
            go_wp2_with fail
            go_ret
            exact ⟨rfl, ((hPk.trans HK3.out).trans hkp).trans k4⟩
end Go.Proofs.YtmcmicgdkdbgjaaDoor
