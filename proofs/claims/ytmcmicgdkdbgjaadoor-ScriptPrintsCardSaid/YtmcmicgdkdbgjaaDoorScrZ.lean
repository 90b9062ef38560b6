/- The document's Quoted, walked. -/
import Derived.Test.YtmcmicgdkdbgjaaDoorScrY
namespace Go.Proofs.YtmcmicgdkdbgjaaDoor
open Go.RowKit
attribute [local go_sem ↓] Go.wp_at_zero Go.wp_at_succ

theorem hexExt : ∀ d : Fin 16, (⟨#[48, 49, 50, 51, 52, 53, 54, 55, 56, 57, 97, 98, 99, 100, 101, 102]⟩ : ByteArray).extract d.val (d.val + 1) = strB [hexL d.val] := by decide
theorem hexV_any (d : Nat) (hd : d < 16) (w : World) : Calls Tryd.prog 31 #[.int .i64 (d : Int)] w fun e w' => e = .returned (.string (strB [hexL d])) ∧ w = w' := by
  have hX : (⟨#[48, 49, 50, 51, 52, 53, 54, 55, 56, 57, 97, 98, 99, 100, 101, 102]⟩ : ByteArray).extract d (d + 1) = strB [hexL d] := hexExt ⟨d, hd⟩
  have s1 : IntKind.i64.wrap ((d : Int) + 1) = (d : Int) + 1 := IntWalk.i64_in _ (by omega)
  have l1 : (0 : Int) ≤ d := by omega
  have l2 : (d : Int) + 1 ≤ 16 := by omega
  have l3 : (d : Int) ≤ (d : Int) + 1 := by omega
  have l4 : ((d : Int) + 1).toNat = d + 1 := by omega
  have l5 : (0 : Int) ≤ (d : Int) + 1 := by omega
  go_enter Tryd.func31, Tryd.ntmps31
  go_wp2_with fail
  go_ret
  exact ⟨rfl, rfl⟩
theorem strB_size (l : Bs) : (strB l).size = l.length := by rw [← bytes_len, strB_list]
theorem strB_app (a b : Bs) : strB a ++ strB b = strB (a ++ b) := by
  apply cstr_eq
  rw [toList_app, strB_list, strB_list, strB_list]
set_option maxRecDepth 100000 in
set_option maxHeartbeats 4000000 in
theorem rquoted_any (s : ByteArray) (w : World) (hs : s.size ≤ 1000) : Calls Tryd.prog 15 #[.string s] w fun e w' => e = .returned (.string (strB (quotedF s.toList))) ∧ Kept w w' := by
  have HL := Lib.hid (bytes_len s)
  have HH := Lib.hid hexV_any
  go_enter Tryd.func15, Tryd.ntmps15
  go_wp2_with fail
  go_loopw [3, 4] (fun o i wr => ∃ (k : Nat) (O : ByteArray), k ≤ s.size ∧ i = .int .i64 k ∧ o = .string O ∧ Hid (O.toList = 34 :: (s.toList.take k).flatMap escOf) ∧ wr = w) (fun _ i _ => s.size - (intOf i).toNat)
  case atStart => exact ⟨0, _, Nat.zero_le _, rfl, rfl, by unfold Hid; rw [ByteArray.toList_eq]; rfl, rfl⟩
  case round =>
    obtain ⟨k, O, hks, rfl, rfl, HO, rfl⟩ := hrel
    have hlen : O.size ≤ 10000 := by
      have := flat_esc_len (s.toList.take k)
      rw [List.length_take] at this
      rw [← bytes_len, HO.out, List.length_cons]
      omega
    have s1 : IntKind.i64.wrap ((k : Int) + 1) = (k : Int) + 1 := IntWalk.i64_in _ (by omega)
    by_cases hlt : k < s.size
    · have l1 : (k : Int) < s.size := by omega
      have l2 : (0 : Int) ≤ k := by omega
      obtain ⟨b, hb⟩ : ∃ b, s[k]'hlt = b := ⟨_, rfl⟩
      have hget : s.toList[k]? = some b := by rw [bytes_get hlt, hb]
      have HNX : Hid (34 :: (s.toList.take (k + 1)).flatMap escOf = (34 :: (s.toList.take k).flatMap escOf) ++ escOf b) := by
        rw [esc_take hget]
        rfl
      have hbl := b.toNat_lt
      have HEX : Hid (s.extract k (k + 1) = strB [b]) := by
        unfold Hid
        apply cstr_eq
        rw [strB_list, ByteArray.toList_eq, ByteArray.data_extract, Array.toList_extract]
        rw [ByteArray.toList_eq] at hget
        rw [List.extract_eq_take_drop, List.drop_eq_getElem_cons (List.getElem?_eq_some_iff.1 hget).1, (List.getElem?_eq_some_iff.1 hget).2]
        simp
      clear hget
      generalize 34 :: (s.toList.take k).flatMap escOf = L at HO HNX
      by_cases c3 : b.toNat < 32 ∨ 126 < b.toNat
      · have HE : Hid (escOf b = [92, 120, hexL (b.toNat / 16), hexL (b.toNat % 16)]) := by
          refine (if_neg ?_).trans (if_pos c3)
          rintro (rfl | rfl) <;> exact absurd c3 (by decide)
        have q1 : wrap64 ((b.toNat : Int) / 16) = (b.toNat : Int) / 16 := IntWalk.wrap64_in _ (by omega)
        have H1 : Hid (∀ w, Calls Tryd.prog 31 #[.int .i64 ((b.toNat : Int) / 16)] w fun e w' => e = .returned (.string (strB [hexL (b.toNat / 16)])) ∧ w = w') := fun w => hexV_any (b.toNat / 16) (by omega) w
        have H2 : Hid (∀ w, Calls Tryd.prog 31 #[.int .i64 ((b.toNat : Int) % 16)] w fun e w' => e = .returned (.string (strB [hexL (b.toNat % 16)])) ∧ w = w') := fun w => hexV_any (b.toNat % 16) (by omega) w
        have z1 := strB_size [hexL (b.toNat / 16)]
        have z2 := strB_size [hexL (b.toNat % 16)]
        rw [List.length_singleton] at z1 z2
        rcases c3 with c3 | c3
        · have m3 : (b.toNat : Int) < 32 := by omega
          clear c3
          go_wp2_with fail
          refine (H1.out _).mono ?_
          rintro e w2 ⟨rfl, rfl⟩
          go_wp2_with fail
          refine (H2.out _).mono ?_
          rintro e w3 ⟨rfl, rfl⟩
          go_wp2_with fail
          go_roundw
          case rel =>
            refine ⟨k + 1, _, hlt, by go_num, rfl, ?_, trivial⟩
            unfold Hid
            rw [toList_app, toList_app, toList_app, HO.out, HNX.out, HE.out, strB_list, strB_list, two_list]
            simp
          case measure =>
            simp [intOf]
            omega
        · have m3 : ¬ (b.toNat : Int) < 32 := by omega
          have m4 : (126 : Int) < b.toNat := by omega
          clear c3
          go_wp2_with fail
          refine (H1.out _).mono ?_
          rintro e w2 ⟨rfl, rfl⟩
          go_wp2_with fail
          refine (H2.out _).mono ?_
          rintro e w3 ⟨rfl, rfl⟩
          go_wp2_with fail
          go_roundw
          case rel =>
            refine ⟨k + 1, _, hlt, by go_num, rfl, ?_, trivial⟩
            unfold Hid
            rw [toList_app, toList_app, toList_app, HO.out, HNX.out, HE.out, strB_list, strB_list, two_list]
            simp
          case measure =>
            simp [intOf]
            omega
      · have m3 : ¬ (b.toNat : Int) < 32 := by omega
        have m4 : ¬ (126 : Int) < b.toNat := by omega
        have l3 : (k : Int) ≤ (k : Int) + 1 := by omega
        have l4 : ((k : Int) + 1).toNat = k + 1 := by omega
        have l5 : (0 : Int) ≤ (k : Int) + 1 := by omega
        have l6 : (k : Int) + 1 ≤ s.size := by omega
        have e2 := strB_size [b]
        by_cases c1 : b = 34 ∨ b = 92
        · have HE : Hid (escOf b = [92, b]) := if_pos c1
          rcases c1 with h | h
          · have m1 : ((b.toNat : Int) == 34) = true := by rw [h]; rfl
            clear h
            go_wp2_with fail
            go_roundw
            case rel =>
              refine ⟨k + 1, _, hlt, by go_num, rfl, ?_, trivial⟩
              unfold Hid
              rw [toList_app, toList_app, HO.out, HNX.out, HE.out, HEX.out, strB_list, ByteArray.toList_eq ⟨#[92]⟩]
              simp
            case measure =>
              simp [intOf]
              omega
          · have m0 : ((b.toNat : Int) == 34) = false := by rw [h]; rfl
            have m1 : ((b.toNat : Int) == 92) = true := by rw [h]; rfl
            clear h
            go_wp2_with fail
            go_roundw
            case rel =>
              refine ⟨k + 1, _, hlt, by go_num, rfl, ?_, trivial⟩
              unfold Hid
              rw [toList_app, toList_app, HO.out, HNX.out, HE.out, HEX.out, strB_list, ByteArray.toList_eq ⟨#[92]⟩]
              simp
            case measure =>
              simp [intOf]
              omega
        · have m0 : ((b.toNat : Int) == 34) = false := u8_eqI (n := 34) (by omega) fun e => c1 (.inl e)
          have m1 : ((b.toNat : Int) == 92) = false := u8_eqI (n := 92) (by omega) fun e => c1 (.inr e)
          have HE : Hid (escOf b = [b]) := (if_neg c1).trans (if_neg c3)
          clear c1 c3
          go_wp2_with fail
          go_roundw
          case rel =>
            refine ⟨k + 1, _, hlt, by go_num, rfl, ?_, trivial⟩
            unfold Hid
            rw [toList_app, HO.out, HNX.out, HE.out, HEX.out, strB_list]
          case measure =>
            simp [intOf]
            omega
    · have l1 : ¬ (k : Int) < s.size := by omega
      have hkn : s.toList.take k = s.toList := List.take_of_length_le (by rw [HL.out]; omega)
      rw [hkn] at HO
      have HQ : Hid (quotedF s.toList = (34 :: s.toList.flatMap escOf) ++ [34]) := rfl
      clear hkn
      generalize 34 :: s.toList.flatMap escOf = L at HO HQ
      have h1 : O.size + 1 ≤ 10001 := by omega
      go_wp2_with fail
      go_ret
      refine ⟨congrArg (fun x => Ending.returned (.string x)) ?_, Kept.refl _⟩
      apply cstr_eq
      rw [toList_app, strB_list, HQ.out, HO.out, ByteArray.toList_eq ⟨#[34]⟩]
end Go.Proofs.YtmcmicgdkdbgjaaDoor
