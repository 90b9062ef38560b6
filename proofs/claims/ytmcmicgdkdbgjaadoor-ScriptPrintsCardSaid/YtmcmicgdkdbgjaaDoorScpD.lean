/- Numbers of paths as text: path.number, walked. -/
import Derived.Test.YtmcmicgdkdbgjaaDoorScpB
import Derived.Test.YtmcmicgdkdbgjaaDoorScrZ
namespace Go.Proofs.YtmcmicgdkdbgjaaDoor
open Go.RowKit
attribute [local go_sem ↓] Go.wp_at_zero Go.wp_at_succ

theorem digExt : ∀ d : Fin 10, (⟨#[48, 49, 50, 51, 52, 53, 54, 55, 56, 57]⟩ : ByteArray).extract d.val (d.val + 1) = strB [UInt8.ofNat (48 + d.val)] := by decide
def boolOf : Value → Bool
  | .bool b => b
  | _ => false
set_option maxRecDepth 100000 in
set_option maxHeartbeats 4000000 in
theorem number_any (N : Nat) (hN : N < 1000000000) (w : World) : Calls Tryd.prog 50 #[.int .i64 (N : Int)] w fun e w' => e = .returned (.string (dS N)) ∧ w = w' := by
  have hmx := dec_max N 8 (by omega)
  obtain ⟨D, hD⟩ : ∃ D, decF N = D := ⟨_, rfl⟩
  have HR : Hid (dS N = strB D) := by
    unfold Hid dS strB
    rw [hD]
  rw [hD] at hmx
  have HD := Lib.hid hD
  clear hD
  go_enter Tryd.func50, Tryd.ntmps50
  go_wp2_with fail
  go_loopw [0, 3, 4] (fun n s ok wr => ∃ (x : Nat) (S : ByteArray) (o : Bool), x < 1000000000 ∧ n = .int .i64 (x : Int) ∧ s = .string S ∧ ok = .bool o ∧ Hid (D = (if o then decF x else []) ++ S.toList) ∧ w = wr) (fun n _ ok _ => if boolOf ok then (intOf n).toNat + 1 else 0)
  case atStart => exact ⟨N, _, true, hN, rfl, rfl, rfl, by unfold Hid; rw [ByteArray.toList_eq]; exact HD.out.symm.trans (List.append_nil _).symm, rfl⟩
  case round =>
    obtain ⟨x, S, o, hx, rfl, rfl, rfl, HS, rfl⟩ := hrel
    have hSs : S.size ≤ 9 := by
      have := congrArg List.length HS.out
      rw [List.length_append, bytes_len] at this
      omega
    cases o
    · have HE : Hid (S = dS N) := by
        unfold Hid
        rw [HR.out]
        apply cstr_eq
        rw [strB_list]
        exact HS.out.symm
      clear HS
      go_wp2_with fail
      go_ret
      exact ⟨by rw [HE.out]; rfl, rfl⟩
    · obtain ⟨q, hq, hq2⟩ : ∃ q : Nat, (x : Int) / 10 = (q : Int) ∧ q = x / 10 := ⟨x / 10, by omega, rfl⟩
      obtain ⟨m, hm, hm2⟩ : ∃ m : Nat, (x : Int) % 10 = (m : Int) ∧ m = x % 10 := ⟨x % 10, by omega, rfl⟩
      have hm10 : m < 10 := by omega
      obtain ⟨dg, hdg⟩ : ∃ dg, strB [UInt8.ofNat (48 + m)] = dg := ⟨_, rfl⟩
      have hX : (⟨#[48, 49, 50, 51, 52, 53, 54, 55, 56, 57]⟩ : ByteArray).extract m (m + 1) = dg := (digExt ⟨m, hm10⟩).trans hdg
      have hXs : dg.size = 1 := by rw [← hdg, strB_size]; rfl
      have hXl : dg.toList = [UInt8.ofNat (48 + m)] := by rw [← hdg, strB_list]
      have s1 : IntKind.i64.wrap ((m : Int) + 1) = (m : Int) + 1 := IntWalk.i64_in _ (by omega)
      have s3 : wrap64 (q : Int) = (q : Int) := IntWalk.wrap64_in _ (by omega)
      have l1 : (0 : Int) ≤ m := by omega
      have l2 : (m : Int) + 1 ≤ 10 := by omega
      have l3 : (m : Int) ≤ (m : Int) + 1 := by omega
      have l4 : ((m : Int) + 1).toNat = m + 1 := by omega
      have l5 : (0 : Int) ≤ (m : Int) + 1 := by omega
      have hDx : D = decF x ++ S.toList := HS.out
      have HN : Hid (D = (if decide (0 < q) then decF q else []) ++ (dg ++ S).toList) := by
        unfold Hid
        by_cases h10 : x < 10
        · rw [toList_app, hXl, hDx, decF_lt h10, show m = x by omega, show decide (0 < q) = false by simp; omega]
          rfl
        · rw [toList_app, hXl, hDx, decF_ge h10, hq2, hm2, show decide (0 < x / 10) = true by simp; omega]
          simp
      have hqb : q < 1000000000 := by omega
      have HQ : Hid (0 < q → q < x) := by unfold Hid; omega
      clear HS hDx hq2 hm2 hdg hXl
      go_wp2_with fail
      go_roundw
      case rel => exact ⟨q, _, decide (0 < q), hqb, rfl, rfl, rfl, HN, by trivial⟩
      case measure =>
        have h := HQ.out
        simp only [intOf, boolOf]
        by_cases h0 : 0 < q
        · have := h h0
          simp [h0]
          omega
        · simp [h0]
end Go.Proofs.YtmcmicgdkdbgjaaDoor
