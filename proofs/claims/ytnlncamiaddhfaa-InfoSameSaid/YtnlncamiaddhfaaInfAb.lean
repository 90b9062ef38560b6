/- What alike asks of attributes: walked. Printed by gen_infab.py. -/
import Derived.Test.YtnlncamiaddhfaaInfAa
import Derived.Test.YtnlncamiaddhfaaInfG
namespace Go.Proofs.Ytnlncamiaddhfaa
open Go.RowKit
attribute [local go_sem ↓] Go.wp_at_zero Go.wp_at_succ

def Nm.val (n : Nm) : Value := .agg #[.string n.u, .string n.l, .string n.p]
def Att.val (a : Att) : Value := .agg #[.string a.n.u, .string a.n.l, .string a.n.p, .string a.v, .bool a.h]
theorem smeans_any (a b : Nm) (w : World) : Calls Try.prog 33 #[a.val, b.val] w fun e w' => e = .returned (.bool (meansNm a b)) ∧ Kept w w' := by
  show Calls Try.prog 33 #[.agg #[.string a.u, .string a.l, .string a.p], .agg #[.string b.u, .string b.l, .string b.p]] w _
  cases eU : eqS a.u b.u
  · have fU : (a.u.toList == b.u.toList) = _ := eU
    have HM : Hid (meansNm a b = false) := by unfold Hid meansNm; rw [eU]; rfl
    clear eU
    go_enter Try.func33, Try.ntmps33
    go_wp2_with fail
    go_ret
    exact ⟨ret_bool HM.out.symm, ((Kept.refl w).alloc _).alloc _⟩
  · have fU : (a.u.toList == b.u.toList) = _ := eU
    have fL : (a.l.toList == b.l.toList) = eqS a.l b.l := rfl
    have HM : Hid (meansNm a b = eqS a.l b.l) := by unfold Hid meansNm; rw [eU]; rfl
    obtain ⟨z, hz⟩ : ∃ z, eqS a.l b.l = z := ⟨_, rfl⟩
    rw [hz] at HM fL
    clear hz eU
    go_enter Try.func33, Try.ntmps33
    go_wp2_with fail
    go_ret
    exact ⟨ret_bool HM.out.symm, ((Kept.refl w).alloc _).alloc _⟩
theorem rmeans_any (a b : Nm) (w : World) : Calls Try.prog 37 #[a.val, b.val] w fun e w' => e = .returned (.bool (meansNm a b)) ∧ Kept w w' := by
  show Calls Try.prog 37 #[.agg #[.string a.u, .string a.l, .string a.p], .agg #[.string b.u, .string b.l, .string b.p]] w _
  cases eU : eqS a.u b.u
  · have fU : (a.u.toList == b.u.toList) = _ := eU
    have HM : Hid (meansNm a b = false) := by unfold Hid meansNm; rw [eU]; rfl
    clear eU
    go_enter Try.func37, Try.ntmps37
    go_wp2_with fail
    go_ret
    exact ⟨ret_bool HM.out.symm, ((Kept.refl w).alloc _).alloc _⟩
  · have fU : (a.u.toList == b.u.toList) = _ := eU
    have fL : (a.l.toList == b.l.toList) = eqS a.l b.l := rfl
    have HM : Hid (meansNm a b = eqS a.l b.l) := by unfold Hid meansNm; rw [eU]; rfl
    obtain ⟨z, hz⟩ : ∃ z, eqS a.l b.l = z := ⟨_, rfl⟩
    rw [hz] at HM fL
    clear hz eU
    go_enter Try.func37, Try.ntmps37
    go_wp2_with fail
    go_ret
    exact ⟨ret_bool HM.out.symm, ((Kept.refl w).alloc _).alloc _⟩
set_option maxHeartbeats 4000000 in
theorem often_any (A : Option Addr) (n c : Nat) (l : List Att) (a : Att) (w : World) (h : Sl w 5 A n c (l.flatMap Att.cells)) (hn : n ≤ 1000000) :
    Calls Try.prog 35 #[.slice A n c, a.val] w fun e w' => e = .returned (.int .i64 ((oftenN l a : Nat) : Int)) ∧ Kept w w' := by
  have hl := h.llen (enc := Att.cells) (fun _ => rfl) (by omega)
  have HL := Lib.hid hl
  have hcap := h.cap
  have hmax := h.max
  show Calls Try.prog 35 #[.slice A n c, .agg #[.string a.n.u, .string a.n.l, .string a.n.p, .string a.v, .bool a.h]] w _
  clear hl
  have B0 := Blk.new w #[.string a.n.u, .string a.n.l, .string a.n.p, .string a.v, .bool a.h] 65
  have k0 : Kept w (w.alloc (.cells #[.string a.n.u, .string a.n.l, .string a.n.p, .string a.v, .bool a.h] 65)) := (Kept.refl w).alloc _
  go_enter Try.func35, Try.ntmps35
  go_upto_region 1 with fail
  change Code.wp _ _ _ _ (w.alloc (.cells #[.string a.n.u, .string a.n.l, .string a.n.p, .string a.v, .bool a.h] 65))
  generalize w.alloc (.cells #[.string a.n.u, .string a.n.l, .string a.n.p, .string a.v, .bool a.h] 65) = w0 at B0 k0 ⊢
  obtain ⟨g0, hg0⟩ : ∃ g, w.heap.size = g := ⟨_, rfl⟩
  rw [hg0] at B0 ⊢
  clear hg0
  have h0 := h.kept k0
  go_wp2_with fail
  go_loopw [5, 10] (fun v i wr => ∃ j : Nat, j ≤ n ∧ i = .int .i64 j ∧ v = .int .i64 ((oftenN (l.take j) a : Nat) : Int) ∧ Kept w0 wr) (fun _ i _ => n - (intOf i).toNat)
  case atStart => exact ⟨0, Nat.zero_le _, rfl, by simp [oftenN], Kept.refl _⟩
  case round =>
    obtain ⟨j, hj, rfl, rfl, hkept⟩ := hrel
    by_cases hlt : j < n
    · obtain ⟨b, o, y, rfl, hy, hyc, hyb⟩ := (h0.kept hkept).elemb (enc := Att.cells) (fun _ => rfl) (by omega) hlt
      have y0 : wr.cell? ⟨b, o + j * 5, none⟩ = some (.string y.n.u) := hyc 0 _ rfl
      have y1 : wr.cell? ⟨b, o + j * 5 + 1, none⟩ = some (.string y.n.l) := hyc 1 _ rfl
      have y2 : wr.cell? ⟨b, o + j * 5 + 2, none⟩ = some (.string y.n.p) := hyc 2 _ rfl
      have y3 : wr.cell? ⟨b, o + j * 5 + 3, none⟩ = some (.string y.v) := hyc 3 _ rfl
      have y4 : wr.cell? ⟨b, o + j * 5 + 4, none⟩ = some (.bool y.h) := hyc 4 _ rfl
      have HS := Lib.hid (often_take hy a)
      have hle := often_le (l.take j) a
      rw [List.length_take] at hle
      have hob : oftenN (l.take j) a ≤ 1000000 := by omega
      have HOB := Lib.hid hob
      obtain ⟨q, hq⟩ : ∃ q, oftenN (l.take j) a = q := ⟨_, rfl⟩
      rw [hq] at hob
      rw [hq]
      have HQ := Lib.hid hq
      have BX := Blk.new wr #[.string y.n.u, .string y.n.l, .string y.n.p, .string y.v, .bool y.h] 65
      have kx : Kept wr (wr.alloc (.cells #[.string y.n.u, .string y.n.l, .string y.n.p, .string y.v, .bool y.h] 65)) := (Kept.refl wr).alloc _
      clear hyc hy hle hq
      go_upto_region 5 with fail
      change Code.wp _ _ _ _ (wr.alloc (.cells #[.string y.n.u, .string y.n.l, .string y.n.p, .string y.v, .bool y.h] 65))
      generalize wr.alloc (.cells #[.string y.n.u, .string y.n.l, .string y.n.p, .string y.v, .bool y.h] 65) = wx at BX kx ⊢
      obtain ⟨gx, hgx⟩ : ∃ g, wr.heap.size = g := ⟨_, rfl⟩
      rw [hgx] at BX ⊢
      have B1 := (B0.kept hkept).kept kx
      have kr := hkept.trans kx
      clear hgx kx y0 y1 y2 y3 y4 hyb
      have a0 : wx.cell? ⟨g0, 0, none⟩ = some (.string a.n.u) := B1.cell 0
      have a1 : wx.cell? ⟨g0, 1, none⟩ = some (.string a.n.l) := B1.cell 1
      have a2 : wx.cell? ⟨g0, 2, none⟩ = some (.string a.n.p) := B1.cell 2
      have b0 : wx.cell? ⟨gx, 0, none⟩ = some (.string y.n.u) := BX.cell 0
      have b1 : wx.cell? ⟨gx, 1, none⟩ = some (.string y.n.l) := BX.cell 1
      have b2 : wx.cell? ⟨gx, 2, none⟩ = some (.string y.n.p) := BX.cell 2
      go_wp2_with fail
      refine (smeans_any a.n y.n wx).mono ?_
      rintro e w2 ⟨rfl, k2⟩
      have a3 : w2.cell? ⟨g0, 3, none⟩ = some (.string a.v) := (B1.kept k2).cell 3
      have b3 : w2.cell? ⟨gx, 3, none⟩ = some (.string y.v) := (BX.kept k2).cell 3
      have kr2 := kr.trans k2
      clear a0 a1 a2 b0 b1 b2
      have hmd : meansA a y = (meansNm a.n y.n && eqS a.v y.v) := rfl
      obtain ⟨z1, hz1⟩ : ∃ z, meansNm a.n y.n = z := ⟨_, rfl⟩
      obtain ⟨z2, hz2⟩ : ∃ z, eqS a.v y.v = z := ⟨_, rfl⟩
      have fV : (a.v.toList == y.v.toList) = z2 := hz2
      rw [hz1, hz2] at hmd
      have HMD := Lib.hid hmd
      rw [hz1]
      clear hz1 hz2 hmd
      have ws : IntKind.i64.wrap ((q : Int) + 1) = (q : Int) + 1 := IntWalk.i64_in _ (by omega)
      cases z1
      · have HV := Lib.hid (show oftenN (l.take (j + 1)) a = q by rw [HS.out, HMD.out, HQ.out]; rfl)
        go_wp2_with fail
        go_roundw
        case rel => exact ⟨j + 1, hlt, by go_num, by rw [HV.out], kr2⟩
        case measure =>
          simp [intOf]
          omega
      cases z2
      · have HV := Lib.hid (show oftenN (l.take (j + 1)) a = q by rw [HS.out, HMD.out, HQ.out]; rfl)
        go_wp2_with fail
        go_roundw
        case rel => exact ⟨j + 1, hlt, by go_num, by rw [HV.out], kr2⟩
        case measure =>
          simp [intOf]
          omega
      have HV := Lib.hid (show oftenN (l.take (j + 1)) a = q + 1 by rw [HS.out, HMD.out, HQ.out]; rfl)
      go_wp2_with fail
      go_roundw
      case rel => exact ⟨j + 1, hlt, by go_num, by rw [HV.out]; simp, kr2⟩
      case measure =>
        simp [intOf]
        omega
    · obtain rfl : j = n := by omega
      have HE := Lib.hid (show oftenN (l.take j) a = oftenN l a by rw [List.take_of_length_le (by rw [HL.out]; exact Nat.le_refl _)])
      go_wp2_with fail
      go_ret
      exact ⟨ret_int (by rw [HE.out]), k0.trans hkept⟩
end Go.Proofs.Ytnlncamiaddhfaa
