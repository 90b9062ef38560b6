/- The document's numbers of paths: walked. -/
import Derived.Test.YtmcmicgdkdbgjaaDoorScrR
import Derived.Test.YtmcmicgdkdbgjaaDoorScrQ
namespace Go.Proofs.YtmcmicgdkdbgjaaDoor
open Go.RowKit
attribute [local go_sem ↓] Go.wp_at_zero Go.wp_at_succ

/-- A number's digits as a text. -/
def dS (n : Nat) : ByteArray := ⟨(decF n).toArray⟩
theorem dS_list (n : Nat) : (dS n).toList = decF n := by
  rw [ByteArray.toList_eq]
  rfl
theorem cstr_eq {a b : ByteArray} (h : a.toList = b.toList) : a = b := by
  rw [ByteArray.toList_eq, ByteArray.toList_eq] at h
  exact ByteArray.ext (Array.toList_inj.1 h)
theorem toList_app (a b : ByteArray) : (a ++ b).toList = a.toList ++ b.toList := by
  rw [ByteArray.toList_eq, ByteArray.toList_eq, ByteArray.toList_eq, ByteArray.data_append]
  simp
theorem strOf1 (k : Nat) : (strOfNums [48 + (k : Int)]).toList = [UInt8.ofNat (48 + k)] := by
  rw [show (48 + (k : Int)) = ((48 + k : Nat) : Int) by omega, ByteArray.toList_eq]
  rfl
set_option maxRecDepth 100000 in
set_option maxHeartbeats 2000000 in
theorem pnum_any : ∀ (K N : Nat) (w : World), N < K → N < 1000000000 → Calls Tryd.prog 52 #[.int .i64 (N : Int)] w fun e w' => e = .returned (.string (dS N)) ∧ Kept w w'
  | 0, _, _, h, _ => absurd h (Nat.not_lt_zero _)
  | K + 1, N, w, hK, hN => by
    by_cases h10 : N < 10
    · have hS := Sl.lit1 (w := w) (t := 5) (enc := Value.int .u8) (cs := [.int .u8 (48 + (N : Int))]) (n := 1) (l := [48 + (N : Int)]) rfl rfl (by omega)
      have hcv := run_str (P := Tryd.prog) Tryd.underlying49 Tryd.underlying5 Tryd.underlying9 hS
      have h1 := strOf1 N
      have hd := decF_lt h10
      have HE : Hid (strOfNums [48 + (N : Int)] = dS N) := by
        unfold Hid
        apply cstr_eq
        rw [h1, dS_list, hd]
      generalize strOfNums [48 + (N : Int)] = d at hcv h1 HE
      have s1 : IntKind.i64.wrap (48 + (N : Int)) = 48 + (N : Int) := IntWalk.i64_in _ (by omega)
      have s2 : IntKind.u8.wrap (48 + (N : Int)) = 48 + (N : Int) := by
        simp [IntKind.wrap, IntKind.bits, IntKind.signed]
        omega
      have l1 : (N : Int) < 10 := by omega
      clear h1 hS hd h10 hK hN
      go_enter Tryd.func52, Tryd.ntmps52
      go_wp2_with fail
      go_ret
      exact ⟨congrArg (fun x => Ending.returned (.string x)) HE.out, (Kept.refl _).alloc _⟩
    · obtain ⟨a, ha, ha2⟩ : ∃ a : Nat, (N : Int) / 10 = (a : Int) ∧ a = N / 10 := ⟨N / 10, by omega, rfl⟩
      obtain ⟨b, hb, hb2⟩ : ∃ b : Nat, (N : Int) % 10 = (b : Int) ∧ b = N % 10 := ⟨N % 10, by omega, rfl⟩
      have H1 := Lib.hid (fun w => pnum_any K a w (by omega) (by omega))
      have H2 := Lib.hid (fun w => pnum_any K b w (by omega) (by omega))
      have HE : Hid (dS a ++ dS b = dS N) := by
        unfold Hid
        apply cstr_eq
        rw [toList_app, dS_list, dS_list, dS_list, decF_ge h10, decF_lt (n := b) (by omega), ha2, hb2]
      have l1 : ¬ (N : Int) < 10 := by omega
      have s3 : wrap64 (a : Int) = (a : Int) := by
        simp [wrap64]
        omega
      have hx9 : (dS a).size ≤ 9 := by rw [← bytes_len, dS_list]; exact dec_max a 8 (by omega)
      have hy9 : (dS b).size ≤ 9 := by rw [← bytes_len, dS_list]; exact dec_max b 8 (by omega)
      obtain ⟨x, hx⟩ : ∃ x, dS a = x := ⟨_, rfl⟩
      obtain ⟨y, hy⟩ : ∃ y, dS b = y := ⟨_, rfl⟩
      rw [hx] at H1 HE hx9
      rw [hy] at H2 HE hy9
      have hxy : ¬ (9223372036854775807 < x.size + y.size) := by omega
      clear ha2 hb2 h10 hK hN hx hy
      go_enter Tryd.func52, Tryd.ntmps52
      go_wp2_with fail
      refine (H1.out _).mono ?_
      rintro e w1 ⟨rfl, k1⟩
      go_wp2_with fail
      refine (H2.out _).mono ?_
      rintro e w2 ⟨rfl, k2⟩
      go_wp2_with fail
      go_ret
      exact ⟨congrArg (fun x => Ending.returned (.string x)) HE.out, k1.trans k2⟩
end Go.Proofs.YtmcmicgdkdbgjaaDoor
