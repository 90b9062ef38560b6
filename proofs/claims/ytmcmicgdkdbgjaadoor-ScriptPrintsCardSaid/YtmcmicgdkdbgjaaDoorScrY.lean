/- A text in quotes, made: script.Quoted and the document's, walked. -/
import Derived.Test.YtmcmicgdkdbgjaaDoorScrX
import Derived.Test.YtmcmicgdkdbgjaaDoorScrE
namespace Go.Proofs.YtmcmicgdkdbgjaaDoor
open Go.RowKit
attribute [local go_sem ↓] Go.wp_at_zero Go.wp_at_succ

theorem hexAt : ∀ d : Fin 16, (⟨#[48, 49, 50, 51, 52, 53, 54, 55, 56, 57, 97, 98, 99, 100, 101, 102]⟩ : ByteArray).data[d.val]? = some (hexL d.val) := by decide
theorem hexAtN {d : Nat} (h : d < 16) (hh : d < (⟨#[48, 49, 50, 51, 52, 53, 54, 55, 56, 57, 97, 98, 99, 100, 101, 102]⟩ : ByteArray).size) : (⟨#[48, 49, 50, 51, 52, 53, 54, 55, 56, 57, 97, 98, 99, 100, 101, 102]⟩ : ByteArray)[d]'hh = hexL d := by
  have := hexAt ⟨d, h⟩
  obtain ⟨h1, h2⟩ := Array.getElem?_eq_some_iff.1 this
  exact h2
theorem esc_take {S : Bs} {k : Nat} {b : UInt8} (h : S[k]? = some b) : (S.take (k + 1)).flatMap escOf = (S.take k).flatMap escOf ++ escOf b := by
  rw [List.take_add_one, h, List.flatMap_append]
  simp
theorem two_list : (⟨#[92, 120]⟩ : ByteArray).toList = [92, 120] := by rw [ByteArray.toList_eq]
theorem and15_fin : ∀ n : Fin 256, bits BinOp.and IntKind.u8 (n.val : Int) 15 = ((n.val % 16 : Nat) : Int) := by decide +kernel
theorem and15 (b : UInt8) : bits BinOp.and IntKind.u8 (b.toNat : Int) 15 = ((b.toNat % 16 : Nat) : Int) := and15_fin ⟨b.toNat, b.toNat_lt⟩
theorem u8_eqI {b : UInt8} {n : Nat} (hn : n < 256) (h : b ≠ UInt8.ofNat n) : ((b.toNat : Int) == (n : Int)) = false := by
  rw [Bool.eq_false_iff]
  intro e
  have := beq_iff_eq.1 e
  refine h (UInt8.toNat_inj.1 ?_)
  rw [UInt8.toNat_ofNat']
  omega
set_option maxRecDepth 100000 in
set_option maxHeartbeats 4000000 in
theorem quoted_any (s : ByteArray) (w : World) (hs : s.size ≤ 1000) : Calls Tryd.prog 14 #[.string s] w fun e w' => e = .returned (.string (strB (quotedF s.toList))) ∧ Kept w w' := by
  have HL := Lib.hid (bytes_len s)
  have HB0 := Lib.hid (Bd.fresh w)
  obtain ⟨B, hB⟩ : ∃ B, w.heap.size = B := ⟨_, rfl⟩
  have k0 : Kept w (w.alloc (.cells #[.pointer none, .slice none 0 0] 62)) := (Kept.refl w).alloc _
  rw [hB] at HB0
  have HWB := Lib.hid wb_any
  have HWS := Lib.hid ws_any
  have HBS := Lib.hid bs_any
  have HK : ∀ w1 w2 : World, Kept w w1 → Below B w1 w2 → Kept w w2 := by
    intro w1 w2 h1 h2
    rw [← hB] at h2
    exact Below.trans h1 h2
  go_enter Tryd.func14, Tryd.ntmps14
  go_upto_region 2 with fail
  generalize w.alloc (.cells #[.pointer none, .slice none 0 0] 62) = w1 at HB0 k0 ⊢
  go_wp2_with fail
  refine (HWB.out B B [] 34 w1 HB0.out (by simp) (by have := k0.size; omega)).mono ?_
  rintro e w2 ⟨rfl, b2, l2⟩
  have k2 := HK _ _ k0 l2
  have HB2 : Hid (Bd w2 B B (34 :: (s.toList.take 0).flatMap escOf)) := b2
  clear HB0 b2 k0 l2
  go_wp2_with fail
  go_loopw [9] (fun i wr => ∃ (k : Nat), k ≤ s.size ∧ i = .int .i64 k ∧ Hid (Bd wr B B (34 :: (s.toList.take k).flatMap escOf)) ∧ Kept w wr) (fun i _ => s.size - (intOf i).toNat)
  case atStart => exact ⟨0, Nat.zero_le _, rfl, HB2, k2⟩
  case round =>
    clear HB2 k2
    obtain ⟨k, hks, rfl, HR, hk⟩ := hrel
    have hBs : B ≤ wr.heap.size := by have := hk.size; omega
    have hlen : (34 :: (s.toList.take k).flatMap escOf).length ≤ 10000 := by
      have := flat_esc_len (s.toList.take k)
      rw [List.length_take] at this
      rw [List.length_cons]
      omega
    have s1 : IntKind.i64.wrap ((k : Int) + 1) = (k : Int) + 1 := IntWalk.i64_in _ (by omega)
    by_cases hlt : k < s.size
    · have l1 : (k : Int) < s.size := by omega
      have l2 : (0 : Int) ≤ k := by omega
      obtain ⟨b, hb⟩ : ∃ b, s[k]'hlt = b := ⟨_, rfl⟩
      have hget : s.toList[k]? = some b := by rw [bytes_get hlt, hb]
      have HNX : Hid (34 :: (s.toList.take (k + 1)).flatMap escOf = (34 :: (s.toList.take k).flatMap escOf) ++ escOf b) := by
        rw [esc_take hget]
        rfl
      have hbl := b.toNat_lt
      clear hget
      generalize 34 :: (s.toList.take k).flatMap escOf = L at HR hlen HNX
      by_cases c1 : b = 34 ∨ b = 92
      · have HE : Hid (escOf b = [92, b]) := if_pos c1
        have REST : ∀ (wr : World), True := fun _ => trivial
        rcases c1 with h | h
        · have m1 : ((b.toNat : Int) == 34) = true := by rw [h]; rfl
          clear h
          go_wp2_with fail
          refine (HWB.out B B L 92 wr HR.out (by omega) hBs).mono ?_
          rintro e w3 ⟨rfl, b3, l3⟩
          have k3 := HK _ _ hk l3
          have HB3 := Lib.hid b3
          have hBs3 : B ≤ w3.heap.size := by have := k3.size; omega
          clear HR b3 l3
          go_wp2_with fail
          refine (HWB.out B B (L ++ [92]) b w3 HB3.out (by rw [List.length_append, List.length_singleton]; omega) hBs3).mono ?_
          rintro e w4 ⟨rfl, b4, l4⟩
          have k4 := HK _ _ k3 l4
          have HB4 : Hid (Bd w4 B B (34 :: (s.toList.take (k + 1)).flatMap escOf)) := by
            rw [HNX.out, HE.out]
            rw [List.append_assoc] at b4
            exact b4
          clear HB3 b4 l4
          go_wp2_with fail
          go_roundw
          case rel => exact ⟨k + 1, hlt, by go_num, HB4, k4⟩
          case measure =>
            simp [intOf]
            omega
        · have m0 : ((b.toNat : Int) == 34) = false := by rw [h]; rfl
          have m1 : ((b.toNat : Int) == 92) = true := by rw [h]; rfl
          clear h
          go_wp2_with fail
          refine (HWB.out B B L 92 wr HR.out (by omega) hBs).mono ?_
          rintro e w3 ⟨rfl, b3, l3⟩
          have k3 := HK _ _ hk l3
          have HB3 := Lib.hid b3
          have hBs3 : B ≤ w3.heap.size := by have := k3.size; omega
          clear HR b3 l3
          go_wp2_with fail
          refine (HWB.out B B (L ++ [92]) b w3 HB3.out (by rw [List.length_append, List.length_singleton]; omega) hBs3).mono ?_
          rintro e w4 ⟨rfl, b4, l4⟩
          have k4 := HK _ _ k3 l4
          have HB4 : Hid (Bd w4 B B (34 :: (s.toList.take (k + 1)).flatMap escOf)) := by
            rw [HNX.out, HE.out]
            rw [List.append_assoc] at b4
            exact b4
          clear HB3 b4 l4
          go_wp2_with fail
          go_roundw
          case rel => exact ⟨k + 1, hlt, by go_num, HB4, k4⟩
          case measure =>
            simp [intOf]
            omega
      · have m0 : ((b.toNat : Int) == 34) = false := u8_eqI (n := 34) (by omega) fun e => c1 (.inl e)
        have m1 : ((b.toNat : Int) == 92) = false := u8_eqI (n := 92) (by omega) fun e => c1 (.inr e)
        by_cases c3 : b.toNat < 32 ∨ 126 < b.toNat
        · have HE : Hid (escOf b = [92, 120, hexL (b.toNat / 16), hexL (b.toNat % 16)]) := (if_neg c1).trans (if_pos c3)
          rcases c3 with c3 | c3
          · have m3 : (b.toNat : Int) < 32 := by omega
            clear c1 c3
            go_wp2_with fail
            refine (HWS.out B B L ⟨#[92, 120]⟩ wr HR.out (by omega) (by decide) hBs).mono ?_
            rintro e w3 ⟨rfl, b3, l3⟩
            have k3 := HK _ _ hk l3
            have HB3 : Hid (Bd w3 B B (L ++ [92, 120])) := by
              rw [two_list] at b3
              exact b3
            have hBs3 : B ≤ w3.heap.size := by have := k3.size; omega
            clear HR b3 l3
            go_wp2_with fail
            rw [hexAtN (by omega)]
            refine (HWB.out B B (L ++ [92, 120]) (hexL (b.toNat / 16)) w3 HB3.out (by simp; omega) hBs3).mono ?_
            rintro e w4 ⟨rfl, b4, l4⟩
            have k4 := HK _ _ k3 l4
            have HB4 := Lib.hid b4
            have hBs4 : B ≤ w4.heap.size := by have := k4.size; omega
            clear HB3 b4 l4
            have h15 := and15 b
            have hd16 : b.toNat % 16 < 16 := by omega
            obtain ⟨d, hd⟩ : ∃ d, b.toNat % 16 = d := ⟨_, rfl⟩
            rw [hd] at h15 HE hd16
            have i1 : (0 : Int) ≤ (d : Int) := by omega
            have i2 : (d : Int) < 16 := by omega
            clear hd
            go_wp2_with fail
            rw [hexAtN (by omega)]
            refine (HWB.out B B (L ++ [92, 120] ++ [hexL (b.toNat / 16)]) (hexL d) w4 HB4.out (by simp; omega) hBs4).mono ?_
            rintro e w5 ⟨rfl, b5, l5⟩
            have k5 := HK _ _ k4 l5
            have HB5 : Hid (Bd w5 B B (34 :: (s.toList.take (k + 1)).flatMap escOf)) := by
              rw [HNX.out, HE.out]
              rw [List.append_assoc, List.append_assoc] at b5
              exact b5
            clear HB4 b5 l5
            go_wp2_with fail
            go_roundw
            case rel => exact ⟨k + 1, hlt, by go_num, HB5, k5⟩
            case measure =>
              simp [intOf]
              omega
          · have m3 : ¬ (b.toNat : Int) < 32 := by omega
            have m4 : (126 : Int) < b.toNat := by omega
            clear c1 c3
            go_wp2_with fail
            refine (HWS.out B B L ⟨#[92, 120]⟩ wr HR.out (by omega) (by decide) hBs).mono ?_
            rintro e w3 ⟨rfl, b3, l3⟩
            have k3 := HK _ _ hk l3
            have HB3 : Hid (Bd w3 B B (L ++ [92, 120])) := by
              rw [two_list] at b3
              exact b3
            have hBs3 : B ≤ w3.heap.size := by have := k3.size; omega
            clear HR b3 l3
            go_wp2_with fail
            rw [hexAtN (by omega)]
            refine (HWB.out B B (L ++ [92, 120]) (hexL (b.toNat / 16)) w3 HB3.out (by simp; omega) hBs3).mono ?_
            rintro e w4 ⟨rfl, b4, l4⟩
            have k4 := HK _ _ k3 l4
            have HB4 := Lib.hid b4
            have hBs4 : B ≤ w4.heap.size := by have := k4.size; omega
            clear HB3 b4 l4
            have h15 := and15 b
            have hd16 : b.toNat % 16 < 16 := by omega
            obtain ⟨d, hd⟩ : ∃ d, b.toNat % 16 = d := ⟨_, rfl⟩
            rw [hd] at h15 HE hd16
            have i1 : (0 : Int) ≤ (d : Int) := by omega
            have i2 : (d : Int) < 16 := by omega
            clear hd
            go_wp2_with fail
            rw [hexAtN (by omega)]
            refine (HWB.out B B (L ++ [92, 120] ++ [hexL (b.toNat / 16)]) (hexL d) w4 HB4.out (by simp; omega) hBs4).mono ?_
            rintro e w5 ⟨rfl, b5, l5⟩
            have k5 := HK _ _ k4 l5
            have HB5 : Hid (Bd w5 B B (34 :: (s.toList.take (k + 1)).flatMap escOf)) := by
              rw [HNX.out, HE.out]
              rw [List.append_assoc, List.append_assoc] at b5
              exact b5
            clear HB4 b5 l5
            go_wp2_with fail
            go_roundw
            case rel => exact ⟨k + 1, hlt, by go_num, HB5, k5⟩
            case measure =>
              simp [intOf]
              omega
        · have m3 : ¬ (b.toNat : Int) < 32 := by omega
          have m4 : ¬ (126 : Int) < b.toNat := by omega
          have HE : Hid (escOf b = [b]) := (if_neg c1).trans (if_neg c3)
          clear c1 c3
          go_wp2_with fail
          refine (HWB.out B B L b wr HR.out (by omega) hBs).mono ?_
          rintro e w4 ⟨rfl, b4, l4⟩
          have k4 := HK _ _ hk l4
          have HB4 : Hid (Bd w4 B B (34 :: (s.toList.take (k + 1)).flatMap escOf)) := by
            rw [HNX.out, HE.out]
            exact b4
          clear HR b4 l4
          go_wp2_with fail
          go_roundw
          case rel => exact ⟨k + 1, hlt, by go_num, HB4, k4⟩
          case measure =>
            simp [intOf]
            omega
    · have l1 : ¬ (k : Int) < s.size := by omega
      have hkn : s.toList.take k = s.toList := List.take_of_length_le (by rw [HL.out]; omega)
      rw [hkn] at HR hlen
      have HQ : Hid (quotedF s.toList = (34 :: s.toList.flatMap escOf) ++ [34]) := rfl
      clear hkn
      generalize 34 :: s.toList.flatMap escOf = L at HR hlen HQ
      go_wp2_with fail
      refine (HWB.out B B L 34 wr HR.out (by omega) hBs).mono ?_
      rintro e w3 ⟨rfl, b3, l3⟩
      have k3 := HK _ _ hk l3
      have HB3 := Lib.hid b3
      have hBs3 : B ≤ w3.heap.size := by have := k3.size; omega
      clear HR b3 l3
      go_wp2_with fail
      refine (HBS.out B B (L ++ [34]) w3 HB3.out hBs3).mono ?_
      rintro e w4 ⟨rfl, l4⟩
      have k4 := HK _ _ k3 l4
      go_wp2_with fail
      go_ret
      exact ⟨by rw [HQ.out]; rfl, k4⟩
end Go.Proofs.YtmcmicgdkdbgjaaDoor
