/- The reference's reader of layer 8, walked: kind, blank. -/
import Derived.Test.YtbebmmohambngaaTagR2
import Derived.Test.YtbebmmohambngaaTagU
namespace Go.Proofs.Ytbebmmohambngaa
open Go.RowKit

/-- The kind of part number k; 0: there is none. -/
def kindN (P : List Prt) (k : Nat) : Int := match P[k]? with | some p => p.k | none => 0
theorem rkind_any (A : Option Addr) (n c : Nat) (P : List Prt) (k : Nat) (w : World) (h : Sl w 3 A n c (P.flatMap prtC)) (hk : k ≤ 9000000) :
    Calls Try.prog 17 #[.slice A n c, .int .i64 k] w fun e w' => e = .returned (.int .i64 (kindN P k)) ∧ w = w' := by
  have hcap := h.cap
  have hmax := h.max
  have hl := h.llen (s := 3) (fun _ => rfl) (by omega)
  by_cases hlt : k < n
  · obtain ⟨b, o, p, rfl, hp, hc, hb⟩ := h.elemb (s := 3) (k := k) (fun _ => rfl) (by omega) hlt
    have p0 : w.cell? ⟨b, o + k * 3, none⟩ = some (.int .i64 p.k) := hc 0 _ rfl
    have HV : Hid (kindN P k = p.k) := by unfold Hid kindN; rw [hp]
    clear hc hp hl
    go_enter Try.func17, Try.ntmps17
    go_wp2
    go_ret
    exact ⟨ret_int (by rw [HV.out]), rfl⟩
  · have HV : Hid (kindN P k = 0) := by unfold Hid kindN; rw [List.getElem?_eq_none (by omega)]
    clear hl
    go_enter Try.func17, Try.ntmps17
    go_wp2
    go_ret
    exact ⟨ret_int (by rw [HV.out]), rfl⟩
theorem skip_kind (P : List Prt) (k : Nat) : skipN (P.drop k) = if kindN P k = 3 then 1 else 0 := by
  unfold skipN kindN
  cases hp : P[k]? with
  | none =>
    rw [List.drop_eq_nil_of_le (List.getElem?_eq_none_iff.1 hp)]
    simp [takeF]
  | some p =>
    rw [drop_get hp]
    simp [takeF]
theorem takeF_kind {P : List Prt} {k : Nat} {x : Int} (hx : x ≠ 0) : takeF [x] (P.drop k) = decide (kindN P k = x) := by
  unfold kindN
  cases hp : P[k]? with
  | none =>
    rw [List.drop_eq_nil_of_le (List.getElem?_eq_none_iff.1 hp)]
    simp [takeF]
    omega
  | some p =>
    rw [drop_get hp, Bool.eq_iff_iff]
    simp [takeF]
theorem rblank_any (A : Option Addr) (n c : Nat) (P : List Prt) (k : Nat) (w : World) (h : Sl w 3 A n c (P.flatMap prtC)) (hk : k ≤ 9000000) :
    Calls Try.prog 19 #[.slice A n c, .int .i64 k] w fun e w' => e = .returned (.int .i64 ((k + skipN (P.drop k) : Nat) : Int)) ∧ w = w' := by
  have hs := skip_kind P k
  by_cases h3 : kindN P k = 3
  · rw [if_pos h3] at hs
    have HS := Lib.hid hs
    have e3 : (kindN P k == 3) = true := by simpa using h3
    clear hs h3
    go_enter Try.func19, Try.ntmps19
    go_wp2_with fail
    refine (rkind_any A n c P k _ h hk).mono ?_
    rintro e w1 ⟨rfl, rfl⟩
    go_wp2
    go_ret
    exact ⟨ret_int (by rw [HS.out]; rfl), rfl⟩
  · rw [if_neg h3] at hs
    have HS := Lib.hid hs
    have e3 : (kindN P k == 3) = false := by simpa using h3
    clear hs h3
    go_enter Try.func19, Try.ntmps19
    go_wp2_with fail
    refine (rkind_any A n c P k _ h hk).mono ?_
    rintro e w1 ⟨rfl, rfl⟩
    go_wp2
    go_ret
    exact ⟨ret_int (by rw [HS.out]; rfl), rfl⟩
end Go.Proofs.Ytbebmmohambngaa
