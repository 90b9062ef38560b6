/- Does a row begin so: walked. -/
import Derived.Test.YtmicmmbdkmmnoaaRun
namespace Go.Proofs.Ytmicmmbdkmmnoaa
open Go.RowKit

/-- A text's bytes as numbers. -/
def strI (s : ByteArray) : List Int := s.data.toList.map fun b => (b.toNat : Int)
theorem strI_len (s : ByteArray) : (strI s).length = s.size := by
  unfold strI
  rw [List.length_map]
  rfl
theorem strI_get (s : ByteArray) (k : Nat) (h : k < s.size) : (strI s)[k]? = some (s[k].toNat : Int) := by
  unfold strI
  rw [List.getElem?_map, List.getElem?_eq_getElem (by simpa using h)]
  rfl

theorem drop_cons_get {l : List Int} {k : Nat} {x : Int} (h : l[k]? = some x) : l.drop k = x :: l.drop (k + 1) := drop_get h
theorem startsF_eq {p s : List Int} {j k : Nat} {x : Int} (hp : p[j]? = some x) (hs : s[k]? = some x) : startsF (p.drop j) (s.drop k) = startsF (p.drop (j + 1)) (s.drop (k + 1)) := by
  rw [drop_get hp, drop_get hs, startsF_cons]
  simp
theorem startsF_ne {p s : List Int} {j k : Nat} {x y : Int} (hp : p[j]? = some x) (hs : s[k]? = some y) (h : y ≠ x) : startsF (p.drop j) (s.drop k) = false := by
  rw [drop_get hp, drop_get hs, startsF_cons]
  have : (x == y) = false := by simpa using fun e => h e.symm
  rw [this]
  rfl

theorem starts_any (A : Option Addr) (n c : Nat) (l : List Int) (at_ : Nat) (s : ByteArray) (w : World) (h : Sl w 1 A n c (l.map (Value.int .i32))) (hs : 0 < s.size) (hb : s.size ≤ 1000) (_ : n ≤ 1000000) (hat : at_ ≤ 2000000)
    (hasc : ∀ x ∈ strI s, x < 128) :
    Calls Try.prog 77 #[.slice A n c, .int .i64 at_, .string s] w fun e w' => e = .returned (.bool (startsF (strI s) (l.drop at_))) ∧ Kept w w' := by
  have hcap := h.cap
  have hmax := h.max
  have HL := Lib.hid h.llen1
  have d3 : decide ((at_ : Int) < 0) = false := by simp
  by_cases hsh : at_ + s.size ≤ n
  · have d1 : decide (n < at_) = false := by simp; omega
    have d2 : decide ((n : Int) - at_ < s.size) = false := by simp; omega
    have HA := Lib.hid hasc
    clear hasc
    go_enter Try.func77, Try.ntmps77
    go_wp2
    go_loopw [27] (fun i wr => ∃ k : Nat, k ≤ s.size ∧ i = .int .i64 k ∧ (∃ q, wr = w.drewN q) ∧ Hid (startsF (strI s) (l.drop at_) = startsF ((strI s).drop k) (l.drop (at_ + k)))) (fun i _ => s.size - (intOf i).toNat)
    case atStart => exact ⟨0, Nat.zero_le _, rfl, ⟨0, rfl⟩, rfl⟩
    case round =>
      obtain ⟨k, hk, rfl, ⟨q, rfl⟩, hinv⟩ := hrel
      by_cases hlt : k < s.size
      · obtain ⟨b, o, x, rfl, hx, hc, hbb⟩ := h.oneb (k := at_ + k) (by omega)
        have HB := Lib.hid (strI_get s k hlt)
        have ha : (s[k].toNat : Int) < 128 := HA.out _ (List.mem_of_getElem? HB.out)
        have g1 : decide ((128 : Int) ≤ (s[k].toNat : Int)) = false := by simp; omega
        have HX := Lib.hid hx
        clear hx
        by_cases hxe : x = (s[k].toNat : Int)
        · have g2 : (x != (s[k].toNat : Int)) = false := by simpa using hxe
          have HE := Lib.hid hxe
          clear hxe
          go_wp2_with fail
          go_quiet (fail)
          go_wp2
          go_roundw
          case rel => exact ⟨k + 1, by omega, by go_num, ⟨_, rfl⟩, by
            unfold Hid
            rw [hinv.out, startsF_eq HB.out (HE.out ▸ HX.out)]
            rfl⟩
          case measure => simp [intOf]; omega
        · have g2 : (x != (s[k].toNat : Int)) = true := by simpa using hxe
          have HE := Lib.hid hxe
          clear hxe
          go_wp2_with fail
          go_quiet (fail)
          go_wp2
          go_ret
          exact ⟨ret_bool (by rw [hinv.out, startsF_ne HB.out HX.out HE.out]), ((Kept.refl _).drewN _).drewN _⟩
      · go_wp2
        go_ret
        refine ⟨ret_bool ?_, (Kept.refl _).drewN _⟩
        have := strI_len s
        rw [hinv.out, List.drop_eq_nil_of_le (by omega)]
        rfl
  · have HV : Hid (startsF (strI s) (l.drop at_) = false) := by
      have := HL.out
      have := strI_len s
      exact startsF_short (by rw [List.length_drop]; omega)
    clear hasc
    by_cases hna : n < at_
    · have d1 : decide (n < at_) = true := by simpa using hna
      go_enter Try.func77, Try.ntmps77
      go_wp2
      go_ret
      exact ⟨ret_bool (by rw [HV.out]), Kept.refl _⟩
    · have d1 : decide (n < at_) = false := by simp; omega
      have d2 : decide ((n : Int) - at_ < s.size) = true := by simp; omega
      go_enter Try.func77, Try.ntmps77
      go_wp2
      go_ret
      exact ⟨ret_bool (by rw [HV.out]), Kept.refl _⟩
/-- All are runes of 32 bits. -/
def Rn (l : List Int) : Prop := ∀ x ∈ l, -2147483648 ≤ x ∧ x ≤ 2147483647
theorem Rn.drop {l : List Int} (h : Rn l) (k : Nat) : Rn (l.drop k) := fun x hx => h x (List.mem_of_mem_drop hx)
theorem Rn.take {l : List Int} (h : Rn l) (k : Nat) : Rn (l.take k) := fun x hx => h x (List.mem_of_mem_take hx)

end Go.Proofs.Ytmicmmbdkmmnoaa
