/- Digits, walked. -/
import Derived.Test.YtnfcfpcpfnhcnaaClassW
import Derived.Lib.Bytealg
namespace Go.Proofs.Ytnfcfpcpfnhcnaa
open Go.RowKit

theorem indexByte_run (s : ByteArray) (c : Int) (w : World) : (callFunc 67 #[.string s, .int .u8 c]).run Try.prog w = .ok (.value (.int .i64 (Lib.indexByte s.data.toList c.toNat.toUInt8))) w := by
  rw [run_callFunc_extern Try.func67 (by kernel_rfl) (by kernel_rfl) (by kernel_rfl) (e := Extern.BytealgIndexByte.indexByte) (by kernel_rfl), Lib.run_indexByteString]
  rfl
theorem indexByte_any (s : ByteArray) (c : Int) (w : World) : Calls Try.prog 63 #[.string s, .int .u8 c] w fun e w' => e = .returned (.int .i64 (Lib.indexByte s.data.toList c.toNat.toUInt8)) ∧ w = w' := by
  have hx := indexByte_run s c
  go_enter Try.func63, Try.ntmps63
  go_wp2
  go_ret
  exact ⟨rfl, rfl⟩

def signBytes : List UInt8 := [32, 13, 10, 45, 39, 40, 41, 43, 44, 46, 47, 58, 61, 63, 59, 33, 42, 35, 64, 36, 95, 37]
theorem signs_fin : ∀ n : Fin 128, (decide (0 ≤ Lib.indexByte signBytes n.val.toUInt8)) = (decide ((n.val : Int) = 32) || decide ((n.val : Int) = 13) || decide ((n.val : Int) = 10) || pubSigns.any (fun c => decide (c = (n.val : Int)))) := by decide +kernel
theorem signs_int (r : Int) (h0 : 0 < r) (h1 : r < 128) : (decide (0 ≤ Lib.indexByte signBytes r.toNat.toUInt8)) = (decide (r = 32) || decide (r = 13) || decide (r = 10) || pubSigns.any (fun c => decide (c = r))) := by
  have h := signs_fin ⟨r.toNat, by omega⟩
  have e : ((r.toNat : Nat) : Int) = r := by omega
  simp only [e] at h
  exact h

theorem pubid_any (r : Int) (w : World) : Calls Try.prog 54 #[.int .i32 r] w fun e w' => e = .returned (.bool (isPubid r)) ∧ Kept w w' := by
  go_enter Try.func54, Try.ntmps54
  go_wp2_with (first
      | (go_at_call 62; refine (in_any r _ _ _ ldSpans _ ?_).mono ?_; exact Sl.litf rfl rfl (by omega); rintro e w' ⟨rfl, hk2⟩)
      | (go_at_call 63; refine (indexByte_any _ _ _).mono ?_; rintro e w' ⟨rfl, rfl⟩))
  all_goals go_ret
  all_goals refine ⟨ret_bool ?_, ((Kept.refl _).alloc _).trans hk2⟩
  · simp [isPubid, isLetDig, *]
  · have hs := signs_int r (by omega) (by omega)
    have hl : isLetDig r = false := by assumption
    unfold isPubid
    rw [hl, Bool.false_or, ← hs]
    congr 2
  all_goals
    have hl : isLetDig r = false := by assumption
    unfold isPubid
    rw [hl]
    rw [Bool.eq_iff_iff]
    simp [pubSigns]
    omega

theorem rpubid_any (r : Int) (w : World) : Calls Try.prog 55 #[.int .i32 r] w fun e w' => e = .returned (.bool (isPubid r)) ∧ Kept w w' := by
  go_enter Try.func55, Try.ntmps55
  go_wp2_with (first
    | (go_at_call 65; refine (is_any _ _ _ _).mono ?_; rintro e w' ⟨rfl, rfl⟩)
    | (go_at_call 64; refine (letter_any _ _).mono ?_; rintro e w' ⟨rfl, rfl⟩))
  rotate_right
  · have hsl : Sl (w.alloc (Obj.cells (pubSigns.map (Value.int .i32)).toArray 21)) 1 (some ⟨w.heap.size, 0, none⟩) 19 19 (pubSigns.map (Value.int .i32)) := Sl.lit rfl (by omega)
    have hkw : Kept w (w.alloc (Obj.cells (pubSigns.map (Value.int .i32)).toArray 21)) := (Kept.refl _).alloc _
    have hn1 : isLetDig r = false := by simp [isLetDig, inSpans, ldSpans, isLetter, within] at *; omega
    change Code.wp _ _ _ _ (w.alloc (Obj.cells (pubSigns.map (Value.int .i32)).toArray 21))
    generalize w.alloc (Obj.cells (pubSigns.map (Value.int .i32)).toArray 21) = W1 at hsl hkw ⊢
    go_loop [25] (fun i => ∃ k : Nat, k ≤ 19 ∧ i = .int .i64 k ∧ Hid ((pubSigns.take k).any (fun c => decide (c = r)) = false)) (fun i => 19 - (intOf i).toNat)
    case atStart => exact ⟨0, Nat.zero_le _, rfl, rfl⟩
    case round =>
      obtain ⟨k, hk, rfl, hno⟩ := hrel
      by_cases hlt : k < 19
      · obtain ⟨b, o, x, hA, hx, hc⟩ := hsl.one hlt
        injection hA with hA
        injection hA with hb ho
        subst hb ho
        simp only [Nat.zero_add] at hc
        clear hsl
        have HX := Lib.hid hx
        clear hx
        by_cases hxr : x = r
        · subst hxr
          go_wp2
          go_ret
          refine ⟨ret_bool ?_, hkw⟩
          have hm : x ∈ pubSigns := List.mem_of_getElem? HX.out
          have hp : isPubid x = true := by
            unfold isPubid
            rw [Bool.or_eq_true]
            exact .inr (List.any_eq_true.2 ⟨x, hm, by simp⟩)
          exact hp.symm
        · have hxr' : (x == r) = false := by simpa using hxr
          go_wp2
          go_round
          case rel => exact ⟨k + 1, by omega, by go_num, by
            have h1 := hno.out
            unfold Hid
            rw [take_step HX.out, List.any_append, h1]
            simpa using hxr⟩
          case measure => simp [intOf]; omega
      · go_wp2
        go_ret
        have h1 := hno.out
        obtain rfl : k = 19 := by omega
        refine ⟨ret_bool ?_, hkw⟩
        have hp : isPubid r = false := by
          unfold isPubid
          rw [hn1]
          rw [List.take_of_length_le (by decide)] at h1
          rw [h1]
          simp at *
          omega
        exact hp.symm
  all_goals (go_ret; refine ⟨ret_bool ?_, Kept.refl _⟩; rw [Bool.eq_iff_iff]; simp [isPubid, isLetDig, inSpans, ldSpans, isLetter, within] at *; try omega)

end Go.Proofs.Ytnfcfpcpfnhcnaa
