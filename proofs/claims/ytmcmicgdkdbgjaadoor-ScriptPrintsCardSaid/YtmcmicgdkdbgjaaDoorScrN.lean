/- Numbers of paths: path.value, walked (printed by wip/gen/gen_scrn.py out of XConX). -/
import Derived.Test.YtmcmicgdkdbgjaaDoorScrP
import Derived.Test.YtmcmicgdkdbgjaaDoorScanW
import Derived.Test.YtmcmicgdkdbgjaaDoorBlk
import Derived.Test.YtmcmicgdkdbgjaaDoorQuiet
import Derived.BigRegion
import Derived.IntWalk
import Derived.Lib.MapLaws
namespace Go.Proofs.YtmcmicgdkdbgjaaDoor
open Go.RowKit
attribute [local go_sem ↓] Go.wp_at_zero Go.wp_at_succ

theorem dig_iff (b : UInt8) : sdig b = true ↔ 48 ≤ b.toNat ∧ b.toNat ≤ 57 := by
  unfold sdig
  simp
theorem get_at {s : ByteArray} {i : Nat} (h : i < s.size) : s.get! i = s[i] := by
  simp [ByteArray.get!, getElem!_pos, h]
  rfl
/-- What is no sign of seven bits is decoded as none. -/
theorem dec_high {s : ByteArray} {pos : Nat} (h : pos < s.size) (ha : 128 ≤ (s[pos]'h).toNat) : 128 ≤ (Utf8.decode s pos).1 := by
  have hd := Lib.decode_at s pos
  have g0 := get_at h
  have hsh := Lib.decodeN_shape (s.size - pos) (s.get! pos).toNat (s.get! (pos + 1)).toNat (s.get! (pos + 2)).toNat (s.get! (pos + 3)).toNat
  rw [← hd, g0] at hsh
  rcases hsh with ⟨h1, _⟩ | ⟨_, h2, h3, h4, h5⟩ | ⟨_, h2, h3, h4, h5, _, h6⟩ | ⟨_, h2, h3, h4, h5, h6, _, h7⟩ | h1
  · omega
  · rw [h5]
    dsimp only
    omega
  · rw [h6]
    dsimp only
    omega
  · rw [h7]
    dsimp only
    omega
  · rw [h1]
    decide
def optV : Option Nat → Value
  | none => .tuple #[.int .i64 0, .bool false]
  | some n => .tuple #[.int .i64 (n : Int), .bool true]
theorem bytes_len (s : ByteArray) : s.toList.length = s.size := by
  rw [ByteArray.toList_eq]
  rfl
theorem bytes_get {s : ByteArray} {i : Nat} (h : i < s.size) : s.toList[i]? = some s[i] := by
  rw [ByteArray.toList_eq]
  exact List.getElem?_eq_getElem (show i < s.data.toList.length from h)
set_option maxRecDepth 100000 in
set_option maxHeartbeats 4000000 in
theorem value_any (s : ByteArray) (w : World) (hs : s.size ≤ 1000000) : Calls Tryd.prog 78 #[.string s] w fun e w' => e = .returned (optV (numF s.toList)) ∧ Kept w w' := by
  have hu := Tryd.underlying9
  have HN : Hid (numF s.toList = if s.toList = [] ∨ 9 < s.toList.length ∨ (1 < s.toList.length ∧ s.toList.head? = some 48) ∨ s.toList.all sdig = false then none else some (worth s.toList)) := rfl
  obtain ⟨z, hz⟩ : ∃ z, numF s.toList = z := ⟨_, rfl⟩
  rw [hz] at HN ⊢
  clear hz
  have hlen := bytes_len s
  by_cases h0 : s.toList = []
  · have HZ : Hid (z = none) := by have := HN.out; rwa [if_pos (.inl h0)] at this
    have e1 : (s.toList == []) = true := by rw [h0]; rfl
    have e2 : s.toList.isEmpty = true := by rw [h0]; rfl
    clear HN h0 hlen
    go_enter Tryd.func78, Tryd.ntmps78
    go_wp2_with fail
    go_ret2
    exact ⟨by rw [HZ.out]; rfl, Kept.refl _⟩
  have e1 : (s.toList == []) = false := by simpa using h0
  have e2 : s.toList.isEmpty = false := by
    cases hz : s.toList with
    | nil => exact absurd hz h0
    | cons _ _ => rfl
  have hpos : 0 < s.size := by
    rw [← hlen]
    exact List.length_pos_iff.2 h0
  by_cases h4 : 9 < s.size
  · have HZ : Hid (z = none) := by have := HN.out; rwa [if_pos (.inr (.inl (by omega)))] at this
    have l1 : (9 : Int) < s.size := by omega
    clear HN h0 hlen
    go_enter Tryd.func78, Tryd.ntmps78
    go_wp2_with fail
    go_ret2
    exact ⟨by rw [HZ.out]; rfl, Kept.refl _⟩
  have l1 : ¬ (9 : Int) < s.size := by omega
  have hhead : s.toList.head? = some (s[0]'hpos) := by
    rw [List.head?_eq_getElem?]
    exact bytes_get hpos
  have hz0 : ((s[0]'hpos).toNat : Int) = 48 ↔ (s[0]'hpos) = 48 := by
    rw [← UInt8.toNat_inj]
    show _ ↔ s[0].toNat = 48
    omega
  have l5 : (0 : Int) < s.size := by omega
  by_cases h5 : 1 < s.size ∧ s[0]'hpos = 48
  · have HZ : Hid (z = none) := by have := HN.out; rwa [if_pos (.inr (.inr (.inl ⟨by omega, by rw [hhead, h5.2]⟩)))] at this
    have l2 : (1 : Int) < s.size := by omega
    have l3 : (((s[0]'hpos).toNat : Int) == 48) = true := by
      rw [beq_iff_eq]
      exact hz0.2 h5.2
    clear HN h0 hlen hhead hz0 h5
    go_enter Tryd.func78, Tryd.ntmps78
    go_wp2_with fail
    go_ret2
    exact ⟨by rw [HZ.out]; rfl, Kept.refl _⟩
  have HZ : Hid (z = if s.toList.all sdig = false then none else some (worth s.toList)) := by
    have := HN.out
    unfold Hid
    rw [this]
    by_cases h6 : s.toList.all sdig = false
    · rw [if_pos (.inr (.inr (.inr h6))), if_pos h6]
    · rw [if_neg h6, if_neg]
      rintro (g | g | g | g)
      · exact h0 g
      · omega
      · rw [hhead] at g
        exact h5 ⟨by omega, by simpa using g.2⟩
      · exact h6 g
  have HL : Hid (s.toList.length = s.size) := hlen
  have H5 := Lib.hid h5
  have HZ0 := Lib.hid hz0
  clear HN hhead hlen h0 h5 hz0
  go_enter Tryd.func78, Tryd.ntmps78
  go_upto_region 2 with fail
  go_cut [23] (fun x wx => x = .bool false ∧ wx = w)
  case first =>
    by_cases l2 : (1 : Int) < s.size
    · have l3 : (((s[0]'hpos).toNat : Int) == 48) = false := by
        rw [Bool.eq_false_iff]
        intro e
        exact H5.out ⟨by omega, HZ0.out.1 (beq_iff_eq.1 e)⟩
      go_wp2_with fail
      go_meet
      exact ⟨rfl, rfl⟩
    · go_wp2_with fail
      go_meet
      exact ⟨rfl, rfl⟩
  case rest =>
  obtain ⟨rfl, rfl⟩ := hcut
  obtain ⟨w0, hw0⟩ : ∃ z, z = wc := ⟨_, rfl⟩
  subst hw0
  clear l5 H5 HZ0
  go_wp2_with fail
  go_loopw [4] (fun v wr => ∃ pos : Nat, pos ≤ s.size ∧ v = .int .i64 ((worth (s.toList.take pos) : Nat) : Int) ∧ wr.heap[w0.heap.size]? = some (.stringIter s pos) ∧ Hid (∀ b ∈ s.toList.take pos, sdig b = true) ∧ Kept w0 wr)
    (fun _ wr => s.size - wr.iterPos w0.heap.size)
  case atStart =>
    exact ⟨0, Nat.zero_le _, rfl, World.iter_heap w0 s 0, by unfold Hid; simp, (Kept.refl _).alloc _⟩
  case round =>
    obtain ⟨pos, hps, rfl, hit, hD, hk⟩ := hrel
    by_cases hp : pos < s.size
    · have hmu : wr.iterPos w0.heap.size = pos := iterPos_of hit
      have htk : s.toList.take (pos + 1) = s.toList.take pos ++ [s[pos]'hp] := by
        rw [List.take_add_one, bytes_get hp]
        rfl
      have hv := worth_lt _ hD.out
      have hv3 : worth (s.toList.take pos) < 1000000000 := by
        have : (s.toList.take pos).length ≤ 9 := by rw [List.length_take]; omega
        have h10 : 10 ^ (s.toList.take pos).length ≤ 10 ^ 9 := Nat.pow_le_pow_right (by omega) this
        omega
      have hsn : worth (s.toList.take (pos + 1)) = 10 * worth (s.toList.take pos) + ((s[pos]'hp).toNat - 48) := by rw [htk, worth_snoc]
      obtain ⟨V, hV⟩ : ∃ V, worth (s.toList.take pos) = V := ⟨_, rfl⟩
      rw [hV] at hsn hv3 ⊢
      clear hV hv
      have HSN := Lib.hid hsn
      have HTK := Lib.hid htk
      have hmem : (s[pos]'hp) ∈ s.toList := List.mem_of_getElem? (bytes_get hp)
      have HMem := Lib.hid hmem
      clear hsn htk hmem
      rcases Nat.lt_or_ge (s[pos]'hp).toNat 128 with h128 | h128
      · have hnext : ∀ ty, (Instr.next (.pointer (some ⟨w0.heap.size, 0, none⟩)) true ty).run Tryd.prog wr = _ := fun ty => Lib.run_next_ascii_at wr w0.heap.size s pos ty hit hp h128
        have hk1 := Lib.iterAt_heap wr w0.heap.size s pos (pos + 1) hit
        have hkp : Kept w0 (wr.iterAt w0.heap.size s (pos + 1)) := Lib.below_iterAt hk (Nat.le_refl _) s (pos + 1)
        generalize wr.iterAt w0.heap.size s (pos + 1) = W1 at hnext hk1 hkp
        obtain ⟨b, hb⟩ : ∃ b, (s[pos]'hp) = b := ⟨_, rfl⟩
        rw [hb] at hnext h128 HSN HTK HMem
        clear hb
        have hbd := dig_iff b
        by_cases hd : sdig b = true
        · have hd2 := hbd.1 hd
          have m1 : ¬ ((b.toNat : Int) < 48) := by omega
          have m2 : ¬ ((57 : Int) < b.toNat) := by omega
          have m3 : IntKind.i64.wrap (10 * (V : Int)) = 10 * (V : Int) := IntWalk.i64_in _ (by omega)
          have m4 : IntKind.i32.wrap ((b.toNat : Int) - 48) = (b.toNat : Int) - 48 := by
            simp [IntKind.wrap, IntKind.bits, IntKind.signed]
            omega
          have m5 : IntKind.i64.wrap ((b.toNat : Int) - 48) = (b.toNat : Int) - 48 := IntWalk.i64_in _ (by omega)
          have m6 : IntKind.i64.wrap (10 * (V : Int) + ((b.toNat : Int) - 48)) = 10 * (V : Int) + ((b.toNat : Int) - 48) := IntWalk.i64_in _ (by omega)
          have HD : Hid (sdig b = true) := hd
          clear hd hbd hit hk
          go_wp2_with fail
          go_roundw
          case rel =>
            refine ⟨pos + 1, hp, ?_, hk1, ?_, hkp⟩
            · rw [HSN.out]
              congr 1
              omega
            · unfold Hid
              rw [HTK.out]
              intro x hx
              rcases List.mem_append.1 hx with hx | hx
              · exact hD.out x hx
              · rw [List.mem_singleton.1 hx]
                exact HD.out
          case measure =>
            rw [hmu, iterPos_of hk1]
            omega
        · have HZ2 : Hid (z = none) := by
            have := HZ.out
            rwa [if_pos] at this
            rw [Bool.eq_false_iff]
            intro e
            exact hd (List.all_eq_true.1 e b HMem.out)
          have hor : b.toNat < 48 ∨ 57 < b.toNat := by
            rcases Nat.lt_or_ge b.toNat 48 with g | g
            · exact .inl g
            · right
              rcases Nat.lt_or_ge 57 b.toNat with g2 | g2
              · exact g2
              · exact absurd (hbd.2 ⟨g, g2⟩) hd
          clear hd hbd hit hk HZ
          rcases hor with g | g
          · have m1 : ((b.toNat : Int) < 48) := by omega
            go_wp2_with fail
            go_ret2
            exact ⟨by rw [HZ2.out]; rfl, hkp⟩
          · have m1 : ¬ ((b.toNat : Int) < 48) := by omega
            have m2 : ((57 : Int) < b.toNat) := by omega
            go_wp2_with fail
            go_ret2
            exact ⟨by rw [HZ2.out]; rfl, hkp⟩
      · have hhi := dec_high hp h128
        have HZ2 : Hid (z = none) := by
          have := HZ.out
          rwa [if_pos] at this
          rw [Bool.eq_false_iff]
          intro e
          have := (dig_iff _).1 (List.all_eq_true.1 e _ HMem.out)
          omega
        have hnext : ∀ ty, (Instr.next (.pointer (some ⟨w0.heap.size, 0, none⟩)) true ty).run Tryd.prog wr = _ := fun ty => Lib.run_next_any_at wr w0.heap.size s pos ty hit hp
        have hkp : Kept w0 (wr.iterAt w0.heap.size s (pos + (Utf8.decode s pos).2)) := Lib.below_iterAt hk (Nat.le_refl _) s _
        generalize wr.iterAt w0.heap.size s (pos + (Utf8.decode s pos).2) = W1 at hnext hkp
        generalize (Utf8.decode s pos).1 = R at hnext hhi
        have m1 : ¬ ((R : Int) < 48) := by omega
        have m2 : ((57 : Int) < R) := by omega
        clear hit hk HZ
        go_wp2_with fail
        go_ret2
        exact ⟨by rw [HZ2.out]; rfl, hkp⟩
    · have hnext : ∀ ty, (Instr.next (.pointer (some ⟨w0.heap.size, 0, none⟩)) true ty).run Tryd.prog wr = _ := fun ty => Lib.run_next_end_at wr w0.heap.size s pos ty hit hp
      have HZ2 : Hid (z = some (worth (s.toList.take pos))) := by
        have h1 := HZ.out
        have h2 := hD.out
        have h3 : s.toList.take pos = s.toList := List.take_of_length_le (by have := HL.out; omega)
        unfold Hid
        rw [h3] at h2 ⊢
        rw [h1, if_neg]
        rw [List.all_eq_true.2 h2]
        simp
      clear hit HZ
      go_wp2_with fail
      go_ret2
      exact ⟨by rw [HZ2.out]; rfl, hk⟩
end Go.Proofs.YtmcmicgdkdbgjaaDoor
