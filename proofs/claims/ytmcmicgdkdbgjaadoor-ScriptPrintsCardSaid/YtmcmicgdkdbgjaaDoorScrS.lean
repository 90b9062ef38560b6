/- strings.Split at a byte: walked over the shelf's genSplit. -/
import Derived.Test.YtmcmicgdkdbgjaaDoorScrL
import Derived.Test.YtmcmicgdkdbgjaaDoorScrP
import Derived.Test.YtmcmicgdkdbgjaaDoorApp
import Derived.IntWalk
namespace Go.Proofs.YtmcmicgdkdbgjaaDoor
open Go.Shelf Go.RowKit
attribute [local go_sem ↓] Go.wp_at_zero Go.wp_at_succ

theorem index_one (c : UInt8) : ∀ l : Bs, Lib.index l [c] = Lib.indexByte l c := by
  intro l
  induction l with
  | nil => rfl
  | cons b l ih =>
    rw [Lib.index, Lib.indexByte, ih]
    have e : ([c].isPrefixOf (b :: l)) = (b == c) := by
      simp [List.isPrefixOf, BEq.comm]
    rw [e]
theorem idx_app (c : UInt8) : ∀ (a r : Bs), c ∉ a → Lib.indexByte (a ++ c :: r) c = (a.length : Int)
  | [], r, _ => by
    rw [List.nil_append, Lib.indexByte]
    simp
  | b :: a, r, h => by
    have hb : b ≠ c := fun e => h (by simp [e])
    have ih := idx_app c a r (fun hm => h (by simp [hm]))
    rw [List.cons_append, Lib.indexByte, ih, if_neg (by simpa using hb), if_neg (by simp)]
    simp
theorem splitF_no (c : UInt8) : ∀ (l : Bs), c ∉ l → splitF c l = [l]
  | [], _ => rfl
  | b :: l, h => by
    have hb : b ≠ c := fun e => h (by simp [e])
    rw [splitF, if_neg hb, splitF_no c l (fun hm => h (by simp [hm]))]
theorem splitF_app (c : UInt8) : ∀ (a r : Bs), c ∉ a → splitF c (a ++ c :: r) = a :: splitF c r
  | [], r, _ => by rw [List.nil_append, splitF, if_pos rfl]
  | b :: a, r, h => by
    have hb : b ≠ c := fun e => h (by simp [e])
    rw [List.cons_append, splitF, if_neg hb, splitF_app c a r (fun hm => h (by simp [hm]))]
theorem splitK_one (c : UInt8) : ∀ (k : Nat) (l : Bs), l.count c = k → Lib.splitK [c] 0 k l = splitF c l
  | 0, l, h => by
    rw [splitF_no c l (List.count_eq_zero.1 h)]
    rfl
  | k + 1, l, h => by
    obtain ⟨a, r, rfl, ha⟩ := List.eq_append_cons_of_mem (List.count_pos_iff.1 (show 0 < l.count c by omega))
    have hk : r.count c = k := by
      rw [List.count_append, List.count_eq_zero.2 ha, List.count_cons_self] at h
      omega
    rw [Lib.splitK, index_one, idx_app c a r ha, splitF_app c a r ha, if_neg (by simp)]
    have e1 : ((a.length : Int)).toNat = a.length := by omega
    rw [e1, Nat.add_zero, List.take_left, List.length_singleton]
    have e2 : (a ++ c :: r).drop (a.length + 1) = r := by
      rw [← List.drop_drop, List.drop_left]
      rfl
    rw [e2, splitK_one c k r hk]
theorem lists_of (c : UInt8) (s : ByteArray) : (Lib.splitB ⟨#[c]⟩ 0 (s.toList.count c) s).map (·.toList) = splitF c s.toList := by
  have h := Lib.splitB_data ⟨#[c]⟩ 0 (s.toList.count c) s
  have e : (fun x : ByteArray => x.toList) = fun x => x.data.toList := funext fun x => ByteArray.toList_eq x
  rw [e, h]
  rw [ByteArray.toList_eq]
  exact splitK_one c _ _ rfl
theorem countB_one (c : UInt8) (s : ByteArray) : Lib.countB s ⟨#[c]⟩ = s.toList.count c := by
  rw [ByteArray.toList_eq]
  exact Lib.count_one c _
set_option maxRecDepth 100000 in
theorem split_any (c : UInt8) (s : ByteArray) (w : World) (hs : s.size ≤ 1000000) :
    Calls Tryd.prog 24 #[.string s, .string ⟨#[c]⟩] w fun e w' => ∃ (VA : Option Addr) (VC : Nat) (L : List ByteArray), e = .returned (.slice VA L.length VC) ∧ Sl w' 1 VA L.length VC (L.map Value.string) ∧ L.map (·.toList) = splitF c s.toList ∧ Kept w w' := by
  have hle : Lib.countB s ⟨#[c]⟩ ≤ s.size := Lib.countB_le ⟨#[c]⟩ (Nat.le_refl 1) _ _ (Nat.le_refl _)
  have hlen := Lib.splitB_all ⟨#[c]⟩ (Nat.le_refl 1) 0 _ s rfl
  have hc := Any.strings_genSplit_core lays221 (by kernel_rfl) s ⟨#[c]⟩ 0 (-1) (Lib.countB s ⟨#[c]⟩ + 1) w (by omega) (Nat.le_refl 1) (Nat.zero_le _)
    (fun x cs hx => by
      refine (lib_strings_Index_one x c _).mono ?_
      rintro e w' ⟨he, hw⟩
      exact ⟨by rw [he]; exact congrArg (fun z => Ending.returned (Value.int .i64 z)) (index_one c _).symm, hw⟩)
    (by
      refine (lib_strings_Count_one s c w).mono ?_
      rintro e w' ⟨he, hw⟩
      exact ⟨by rw [he]; exact congrArg (fun z : Nat => Ending.returned (Value.int .i64 (z : Int))) (Lib.count_one c _).symm, hw⟩) (by decide) (by decide) (by rw [if_pos (by decide)]; omega)
  rw [Nat.add_sub_cancel, hlen] at hc
  have e2 : Lib.cellsOf (Lib.splitB ⟨#[c]⟩ 0 (Lib.countB s ⟨#[c]⟩) s) (Lib.countB s ⟨#[c]⟩ + 1) = ((Lib.splitB ⟨#[c]⟩ 0 (Lib.countB s ⟨#[c]⟩) s).map Value.string).toArray := by rw [← hlen]; exact Lib.cellsOf_full _
  rw [e2] at hc
  have hl := lists_of c s
  rw [← countB_one] at hl
  obtain ⟨L, hL⟩ : ∃ L, Lib.splitB ⟨#[c]⟩ 0 (Lib.countB s ⟨#[c]⟩) s = L := ⟨_, rfl⟩
  rw [hL] at hlen hc hl
  rw [← hlen] at hc
  have HC := Lib.hid hc
  have HL := Lib.hid hl
  have hL2 : L.length ≤ 1000001 := by omega
  clear hc hl hL hlen e2 hle
  go_enter Tryd.func24, Tryd.ntmps24
  go_wp2_with fail
  refine HC.out.mono ?_
  rintro e w' ⟨rfl, rfl⟩
  go_wp2_with fail
  go_ret
  exact ⟨_, _, L, rfl, Sl.litg rfl (by simp) (by omega), HL.out, (Kept.refl _).alloc _⟩
end Go.Proofs.YtmcmicgdkdbgjaaDoor
