/- The reference's Lead of layer 5, walked; both Leads where there is no place. -/
import Derived.Test.YtnfcfpcpfnhcnaaRun
namespace Go.Proofs.Ytnfcfpcpfnhcnaa
open Go.RowKit

theorem start_nchar {r : Int} (h : nameStart r = true) : nameChar r = true := by simp [nameChar, h]
theorem leadF_yes {l : List Int} {k : Nat} {x : Int} (h : l[k]? = some x) (hs : nameStart x = true) : leadF (l.drop k) = 1 + runF nameChar (l.drop (k + 1)) := by
  rw [← runF_yes h (start_nchar hs), leadF, drop_get h]
  simp [hs]
theorem leadF_no {l : List Int} {k : Nat} {x : Int} (h : l[k]? = some x) (hs : nameStart x = false) : leadF (l.drop k) = 0 := by
  rw [leadF, drop_get h]
  simp [hs]
theorem leadF_end {l : List Int} {k : Nat} (h : l.length ≤ k) : leadF (l.drop k) = 0 := by
  rw [List.drop_eq_nil_of_le h]
  rfl

theorem rlead_any (A : Option Addr) (n c : Nat) (l : List Int) (fr : Int) (w : World) (h : Sl w 1 A n c (l.map (Value.int .i32))) (h0 : 0 ≤ fr) :
    Calls Try.prog 44 #[.slice A n c, .int .i64 fr] w fun e w' => e = .returned (.int .i64 (leadF (l.drop fr.toNat))) ∧ Kept w w' := by
  have hmax := h.max
  have hcap := h.cap
  have HL := Lib.hid h.llen1
  obtain ⟨k, rfl⟩ := Int.eq_ofNat_of_zero_le h0
  rw [Int.toNat_natCast]
  by_cases hlt : k < n
  · obtain ⟨b, o, x, rfl, hx, hc, hb⟩ := h.oneb hlt
    cases hs : nameStart x
    · have HV := Lib.hid (leadF_no hx hs)
      clear hx
      go_enter Try.func44, Try.ntmps44
      go_wp2_with fail
      refine (rnameStart_any x _).mono ?_
      rintro e w1 ⟨rfl, rfl⟩
      go_wp2
      go_ret
      exact ⟨ret_int (by rw [HV.out]; rfl), Kept.refl _⟩
    · have HV := Lib.hid (leadF_yes hx hs)
      clear hx
      have d1 : decide ((k : Int) < 0) = false := by simp
      have d2 : decide (n ≤ k) = false := by simp; omega
      go_enter Try.func44, Try.ntmps44
      go_wp2_with fail
      refine (rnameStart_any x _).mono ?_
      rintro e w1 ⟨rfl, rfl⟩
      go_wp2_with fail
      go_loopw [5] (fun i wr => ∃ m : Nat, 1 ≤ m ∧ k + m ≤ n ∧ i = .int .i64 m ∧ Kept w wr ∧ Hid (leadF (l.drop k) = m + runF nameChar (l.drop (k + m)))) (fun i _ => n - (intOf i).toNat)
      case atStart => exact ⟨1, Nat.le_refl _, by omega, rfl, Kept.refl _, by unfold Hid; rw [HV.out]⟩
      case round =>
        obtain ⟨m, hm1, hm, rfl, hkept, hinv⟩ := hrel
        by_cases hlt1 : k + m < n
        · obtain ⟨b2, o2, y, hA, hy, hcy, hby⟩ := (h.kept hkept).oneb (k := k + m) hlt1
          injection hA with hA
          injection hA with hA1 hA2
          subst hA1 hA2
          have HY := Lib.hid hy
          clear hy
          cases hp : nameChar y
          · go_wp2_with fail
            refine (rnameChar_any y _).mono ?_
            rintro e w1 ⟨rfl, rfl⟩
            go_wp2
            go_ret
            exact ⟨ret_int (by rw [hinv.out, runF_no HY.out hp]; rfl), hkept⟩
          · go_wp2_with fail
            refine (rnameChar_any y _).mono ?_
            rintro e w1 ⟨rfl, rfl⟩
            go_wp2
            go_roundw
            case rel => exact ⟨m + 1, by omega, by omega, by go_num, hkept, by unfold Hid; rw [hinv.out, runF_yes HY.out hp, Nat.add_assoc k m 1]; omega⟩
            case measure => simp [intOf]; omega
        · go_wp2
          go_ret
          have := HL.out
          exact ⟨ret_int (by rw [hinv.out, runF_end (by omega)]; rfl), hkept⟩
  · have HV : Hid (leadF (l.drop k) = 0) := by
      have := HL.out
      exact leadF_end (by omega)
    go_enter Try.func44, Try.ntmps44
    go_wp2_with fail
    go_ret
    exact ⟨ret_int (by rw [HV.out]; rfl), Kept.refl _⟩
theorem rlead_neg (A : Option Addr) (n c : Nat) (fr : Int) (w : World) (h0 : fr < 0) :
    Calls Try.prog 44 #[.slice A n c, .int .i64 fr] w fun e w' => e = .returned (.int .i64 0) ∧ Kept w w' := by
  go_enter Try.func44, Try.ntmps44
  go_wp2_with fail
  go_ret
  exact ⟨rfl, Kept.refl _⟩
theorem lead_neg (A : Option Addr) (n c : Nat) (fr : Int) (w : World) (h0 : fr < 0) :
    Calls Try.prog 40 #[.slice A n c, .int .i64 fr] w fun e w' => e = .returned (.int .i64 0) ∧ Kept w w' := by
  go_enter Try.func40, Try.ntmps40
  go_wp2_with fail
  go_ret
  exact ⟨rfl, Kept.refl _⟩
end Go.Proofs.Ytnfcfpcpfnhcnaa
