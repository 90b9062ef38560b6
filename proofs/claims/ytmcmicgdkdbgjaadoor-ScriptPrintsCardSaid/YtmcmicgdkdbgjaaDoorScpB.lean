/- Which numbers can be said: script.may and the document's, walked (printed by wip/gen/gen_scpb.py). -/
import Derived.Test.YtmcmicgdkdbgjaaDoorScpA
namespace Go.Proofs.YtmcmicgdkdbgjaaDoor
open Go.RowKit
attribute [local go_sem ↓] Go.wp_at_zero Go.wp_at_succ

def intV (x : Int) : Value := .int .i64 x
def mayL (l : List Int) : Bool := l.all okN
theorem may_no {l : List Int} {x : Int} (h : x ∈ l) (hx : x < 0 ∨ 999999999 < x) : mayL l = false := by
  unfold mayL
  rw [List.all_eq_false]
  refine ⟨x, h, ?_⟩
  unfold okN
  rw [decide_eq_true_eq]
  omega
theorem may_take {l : List Int} {x : Int} {k : Nat} (h : mayL (l.take k) = true) (hx : l[k]? = some x) (h2 : 0 ≤ x ∧ x ≤ 999999999) : mayL (l.take (k + 1)) = true := by
  unfold mayL at h ⊢
  rw [List.take_add_one, hx, List.all_append, h]
  simp [okN, h2]
theorem may_nat : ∀ {l : List Int}, mayL l = true → ∃ p : List Nat, l = p.map (fun n : Nat => (n : Int)) ∧ ∀ n ∈ p, n < 1000000000
  | [], _ => ⟨[], rfl, by simp⟩
  | x :: l, h => by
    unfold mayL at h
    rw [List.all_cons, Bool.and_eq_true] at h
    obtain ⟨h1, h2⟩ := h
    obtain ⟨p, rfl, hp⟩ := may_nat (l := l) h2
    unfold okN at h1
    rw [decide_eq_true_eq] at h1
    refine ⟨x.toNat :: p, ?_, ?_⟩
    · rw [List.map_cons]
      congr 1
      omega
    · intro n hn
      rcases List.mem_cons.1 hn with rfl | hn
      · omega
      · exact hp n hn
theorem nat_vals (p : List Nat) : (p.map (fun n : Nat => (n : Int))).map intV = p.map natV := by
  rw [List.map_map]
  rfl
set_option maxHeartbeats 2000000 in
theorem may_any (A : Option Addr) (n c : Nat) (l : List Int) (w : World) (h : Sl w 1 A n c (l.map intV)) : Calls Tryd.prog 33 #[.slice A n c] w fun e w' => e = .returned (.bool (mayL l)) ∧ w = w' := by
  have hcap := h.cap
  have hmax := h.max
  have hl : l.length = n := by simpa using h.llen1
  obtain ⟨z, hz⟩ : ∃ z, mayL l = z := ⟨_, rfl⟩
  rw [hz]
  have HZ := Lib.hid hz
  clear hz
  go_enter Tryd.func33, Tryd.ntmps33
  go_wp2_with fail
  go_loopw [7] (fun i wr => ∃ k : Nat, k ≤ n ∧ i = .int .i64 k ∧ Hid (mayL (l.take k) = true) ∧ w = wr) (fun i _ => n - (intOf i).toNat)
  case atStart => exact ⟨0, Nat.zero_le _, rfl, rfl, rfl⟩
  case round =>
    obtain ⟨k, hk, rfl, HK, rfl⟩ := hrel
    by_cases hlt : k < n
    · obtain ⟨b, o, x, rfl, hx, x0⟩ := h.one hlt
      have x1 : w.cell? ⟨b, o + k, none⟩ = some (.int .i64 x) := x0
      have l1 : (0 : Int) ≤ k := by omega
      have l2 : (k : Int) < n := by omega
      have HM : Hid (x ∈ l) := List.mem_of_getElem? hx
      by_cases c1 : x < 0
      · have HE : Hid (z = false) := by
          rw [← HZ.out]
          exact may_no HM.out (by omega)
        clear x0 hx
        go_wp2_with fail
        go_ret
        exact ⟨by rw [HE.out]; rfl, rfl⟩
      · by_cases c2 : 999999999 < x
        · have HE : Hid (z = false) := by
            rw [← HZ.out]
            exact may_no HM.out (by omega)
          clear x0 hx
          go_wp2_with fail
          go_ret
          exact ⟨by rw [HE.out]; rfl, rfl⟩
        · have HN : Hid (mayL (l.take (k + 1)) = true) := may_take HK.out hx (by omega)
          clear x0 hx
          go_wp2_with fail
          go_roundw
          case rel => exact ⟨k + 1, hlt, by go_num, HN, by trivial⟩
          case measure =>
            simp [intOf]
            omega
    · have HE : Hid (z = true) := by
        rw [← HZ.out, ← HK.out, List.take_of_length_le (by omega)]
        rfl
      go_wp2_with fail
      go_ret
      exact ⟨by rw [HE.out]; rfl, rfl⟩
set_option maxHeartbeats 2000000 in
theorem numbers_any (A : Option Addr) (n c : Nat) (l : List Int) (w : World) (h : Sl w 1 A n c (l.map intV)) : Calls Tryd.prog 36 #[.slice A n c] w fun e w' => e = .returned (.bool (mayL l)) ∧ w = w' := by
  have hcap := h.cap
  have hmax := h.max
  have hl : l.length = n := by simpa using h.llen1
  obtain ⟨z, hz⟩ : ∃ z, mayL l = z := ⟨_, rfl⟩
  rw [hz]
  have HZ := Lib.hid hz
  clear hz
  go_enter Tryd.func36, Tryd.ntmps36
  go_wp2_with fail
  go_loopw [7] (fun i wr => ∃ k : Nat, k ≤ n ∧ i = .int .i64 k ∧ Hid (mayL (l.take k) = true) ∧ w = wr) (fun i _ => n - (intOf i).toNat)
  case atStart => exact ⟨0, Nat.zero_le _, rfl, rfl, rfl⟩
  case round =>
    obtain ⟨k, hk, rfl, HK, rfl⟩ := hrel
    by_cases hlt : k < n
    · obtain ⟨b, o, x, rfl, hx, x0⟩ := h.one hlt
      have x1 : w.cell? ⟨b, o + k, none⟩ = some (.int .i64 x) := x0
      have l1 : (0 : Int) ≤ k := by omega
      have l2 : (k : Int) < n := by omega
      have HM : Hid (x ∈ l) := List.mem_of_getElem? hx
      by_cases c1 : x < 0
      · have HE : Hid (z = false) := by
          rw [← HZ.out]
          exact may_no HM.out (by omega)
        clear x0 hx
        go_wp2_with fail
        go_ret
        exact ⟨by rw [HE.out]; rfl, rfl⟩
      · by_cases c2 : 999999999 < x
        · have HE : Hid (z = false) := by
            rw [← HZ.out]
            exact may_no HM.out (by omega)
          clear x0 hx
          go_wp2_with fail
          go_ret
          exact ⟨by rw [HE.out]; rfl, rfl⟩
        · have HN : Hid (mayL (l.take (k + 1)) = true) := may_take HK.out hx (by omega)
          clear x0 hx
          go_wp2_with fail
          go_roundw
          case rel => exact ⟨k + 1, hlt, by go_num, HN, by trivial⟩
          case measure =>
            simp [intOf]
            omega
    · have HE : Hid (z = true) := by
        rw [← HZ.out, ← HK.out, List.take_of_length_le (by omega)]
        rfl
      go_wp2_with fail
      go_ret
      exact ⟨by rw [HE.out]; rfl, rfl⟩
end Go.Proofs.YtmcmicgdkdbgjaaDoor
