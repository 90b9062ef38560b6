/- How many nodes: walked, the program's and the document's. -/
import Derived.Test.YtnlncamiaddhfaaInfP
import Derived.Test.YtnlncamiaddhfaaQuiet
import Derived.Lib.SliceRun
import Derived.BigRegion
import Derived.IntWalk
namespace Go.Proofs.Ytnlncamiaddhfaa
open Go.RowKit
attribute [local go_sem ↓] Go.wp_at_zero Go.wp_at_succ

theorem cells9 {w : World} {n c : Nat} {A : Option Addr} {L : List Nd} (h : Sl w 9 A n c (L.flatMap Nd.cells)) {k : Nat} (hk : k < n) :
    ∃ b o yk yn ybA ybn ybc ybs yaA yan yac yal yt yg ykA ykn ykc yks, A = some ⟨b, o, none⟩ ∧ L[k]? = some (Nd.mk yk yn ybA ybn ybc ybs yaA yan yac yal yt yg ykA ykn ykc yks) ∧
      w.cell? ⟨b, o + k * 9, none⟩ = some (.int .i64 yk) ∧ w.cell? ⟨b, o + k * 9 + 1, none⟩ = some (.string yn.u) ∧ w.cell? ⟨b, o + k * 9 + 2, none⟩ = some (.string yn.l) ∧ w.cell? ⟨b, o + k * 9 + 3, none⟩ = some (.string yn.p) ∧
      w.cell? ⟨b, o + k * 9 + 4, none⟩ = some (.slice ybA ybn ybc) ∧ w.cell? ⟨b, o + k * 9 + 5, none⟩ = some (.slice yaA yan yac) ∧ w.cell? ⟨b, o + k * 9 + 6, none⟩ = some (.string yt) ∧ w.cell? ⟨b, o + k * 9 + 7, none⟩ = some (.string yg) ∧
      w.cell? ⟨b, o + k * 9 + 8, none⟩ = some (.slice ykA ykn ykc) ∧ b < w.heap.size := by
  obtain ⟨b, o, ⟨yk, yn, ybA, ybn, ybc, ybs, yaA, yan, yac, yal, yt, yg, ykA, ykn, ykc, yks⟩, hA, hx, hc, hb⟩ := h.elemb Nd.cells_len (by omega) hk
  exact ⟨b, o, yk, yn, ybA, ybn, ybc, ybs, yaA, yan, yac, yal, yt, yg, ykA, ykn, ykc, yks, hA, hx, hc 0 _ rfl, hc 1 _ rfl, hc 2 _ rfl, hc 3 _ rfl, hc 4 _ rfl, hc 5 _ rfl, hc 6 _ rfl, hc 7 _ rfl, hc 8 _ rfl, hb⟩
theorem map_get {α β : Type} {f : α → β} {l : List α} {i : Nat} {x : α} (h : l[i]? = some x) : (l.map f)[i]? = some (f x) := by rw [List.getElem?_map, h]; rfl
/-- A node's cells. -/
@[reducible] def ndc (k : Int) (n : Nm) (bA : Option Addr) (bn bc : Nat) (aA : Option Addr) (an ac : Nat) (t g : ByteArray) (kA : Option Addr) (kn kc : Nat) : Array Value :=
  #[.int .i64 k, .string n.u, .string n.l, .string n.p, .slice bA bn bc, .slice aA an ac, .string t, .string g, .slice kA kn kc]

set_option maxHeartbeats 4000000 in
theorem count_any (x : Nd) : ∀ w : World, x.ok w → countT x.tr ≤ 1000000 → Calls Try.prog 13 #[x.val] w fun e w' => e = .returned (.int .i64 (countT x.tr : Nat)) ∧ Kept w w' := by
  induction x using Nd.ind with
  | h k n bA bn bc bs aA an ac al t g kA kn kc ks ih =>
  intro w hok hct
  obtain ⟨_, _, h, hks⟩ := hok.parts
  have IH := Lib.hid ih
  have HKS := Lib.hid hks
  clear ih hks hok
  rw [Nd.tr_mk, countT_mk] at hct ⊢
  have hL := h.llen Nd.cells_len (by omega)
  have HL := Lib.hid hL
  have hcap := h.cap
  have hmax := h.max
  clear hL
  obtain ⟨N, hN⟩ : ∃ N, countL (ks.map Nd.tr) = N := ⟨_, rfl⟩
  rw [hN] at hct ⊢
  have HN := Lib.hid hN
  clear hN
  show Calls Try.prog 13 #[.agg #[.int .i64 k, .string n.u, .string n.l, .string n.p, .slice bA bn bc, .slice aA an ac, .string t, .string g, .slice kA kn kc]] w _
  have k1 := (Kept.refl w).alloc (.cells #[.int .i64 k, .string n.u, .string n.l, .string n.p, .slice bA bn bc, .slice aA an ac, .string t, .string g, .slice kA kn kc] 36)
  go_enter Try.func13, Try.ntmps13
  go_wp2_with fail
  go_loopw [3, 9] (fun s i wr => ∃ j : Nat, j ≤ kn ∧ i = .int .i64 j ∧ Kept w wr ∧ s = .int .i64 ((1 + countL ((ks.map Nd.tr).take j) : Nat) : Int)) (fun _ i _ => kn - (intOf i).toNat)
  case atStart => exact ⟨0, Nat.zero_le _, rfl, k1, by simp [countL]⟩
  case round =>
    obtain ⟨j, hj, rfl, hkept, rfl⟩ := hrel
    by_cases hlt : j < kn
    · obtain ⟨b, o, yk, yn, ybA, ybn, ybc, ybs, yaA, yan, yac, yal, yt, yg, ykA, ykn, ykc, yks, rfl, hy, y0, y1, y2, y3, y4, y5, y6, y7, y8, hb⟩ := cells9 (h.kept hkept) hlt
      have hyo := (HKS.out _ (List.mem_of_getElem? hy)).kept hkept
      have hih := IH.out _ (List.mem_of_getElem? hy)
      have hyt := map_get (f := Nd.tr) hy
      have ht := countL_take hyt
      have hle := countL_le (ks.map Nd.tr) (j + 1)
      rw [HN.out, ht] at hle
      have HT := Lib.hid ht
      obtain ⟨c0, hc0⟩ : ∃ c0, countL ((ks.map Nd.tr).take j) = c0 := ⟨_, rfl⟩
      obtain ⟨c1, hc1⟩ : ∃ c1, countT (Nd.mk yk yn ybA ybn ybc ybs yaA yan yac yal yt yg ykA ykn ykc yks).tr = c1 := ⟨_, rfl⟩
      rw [hc0, hc1] at hle HT
      rw [hc1] at hih
      rw [hc0]
      clear hc0 hc1 ht hyt hy
      have k2 := (Kept.refl wr).alloc (.cells (ndc yk yn ybA ybn ybc yaA yan yac yt yg ykA ykn ykc) 36)
      have hsum : IntKind.i64.wrap ((1 + c0 : Nat) + (c1 : Nat) : Int) = ((1 + c0 + c1 : Nat) : Int) := by
        rw [IntWalk.i64_in _ (by omega)]
        omega
      go_wp2_with fail
      refine (hih _ (hyo.kept k2) (by omega)).mono ?_
      rintro e w3 ⟨rfl, k3⟩
      go_wp2_with fail
      go_roundw
      case rel => exact ⟨j + 1, hlt, by go_num, (hkept.trans k2).trans k3, by rw [HT.out]; exact congrArg (Value.int .i64) (by omega)⟩
      case measure =>
        simp [intOf]
        omega
    · obtain rfl : j = kn := by omega
      go_wp2_with fail
      go_ret
      refine ⟨?_, hkept⟩
      rw [List.take_of_length_le (by rw [List.length_map, HL.out]; exact Nat.le_refl _), HN.out]
      exact ret_int (by omega)
set_option maxHeartbeats 4000000 in
theorem rcount_any (x : Nd) : ∀ w : World, x.ok w → countT x.tr ≤ 1000000 → Calls Try.prog 14 #[x.val] w fun e w' => e = .returned (.int .i64 (countT x.tr : Nat)) ∧ Kept w w' := by
  induction x using Nd.ind with
  | h k n bA bn bc bs aA an ac al t g kA kn kc ks ih =>
  intro w hok hct
  obtain ⟨_, _, h, hks⟩ := hok.parts
  have IH := Lib.hid ih
  have HKS := Lib.hid hks
  clear ih hks hok
  rw [Nd.tr_mk, countT_mk] at hct ⊢
  have hL := h.llen Nd.cells_len (by omega)
  have HL := Lib.hid hL
  have hcap := h.cap
  have hmax := h.max
  clear hL
  obtain ⟨N, hN⟩ : ∃ N, countL (ks.map Nd.tr) = N := ⟨_, rfl⟩
  rw [hN] at hct ⊢
  have HN := Lib.hid hN
  clear hN
  show Calls Try.prog 14 #[.agg #[.int .i64 k, .string n.u, .string n.l, .string n.p, .slice bA bn bc, .slice aA an ac, .string t, .string g, .slice kA kn kc]] w _
  have k1 := (Kept.refl w).alloc (.cells #[.int .i64 k, .string n.u, .string n.l, .string n.p, .slice bA bn bc, .slice aA an ac, .string t, .string g, .slice kA kn kc] 28)
  go_enter Try.func14, Try.ntmps14
  go_wp2_with fail
  go_loopw [3, 9] (fun s i wr => ∃ j : Nat, j ≤ kn ∧ i = .int .i64 j ∧ Kept w wr ∧ s = .int .i64 ((1 + countL ((ks.map Nd.tr).take j) : Nat) : Int)) (fun _ i _ => kn - (intOf i).toNat)
  case atStart => exact ⟨0, Nat.zero_le _, rfl, k1, by simp [countL]⟩
  case round =>
    obtain ⟨j, hj, rfl, hkept, rfl⟩ := hrel
    by_cases hlt : j < kn
    · obtain ⟨b, o, yk, yn, ybA, ybn, ybc, ybs, yaA, yan, yac, yal, yt, yg, ykA, ykn, ykc, yks, rfl, hy, y0, y1, y2, y3, y4, y5, y6, y7, y8, hb⟩ := cells9 (h.kept hkept) hlt
      have hyo := (HKS.out _ (List.mem_of_getElem? hy)).kept hkept
      have hih := IH.out _ (List.mem_of_getElem? hy)
      have hyt := map_get (f := Nd.tr) hy
      have ht := countL_take hyt
      have hle := countL_le (ks.map Nd.tr) (j + 1)
      rw [HN.out, ht] at hle
      have HT := Lib.hid ht
      obtain ⟨c0, hc0⟩ : ∃ c0, countL ((ks.map Nd.tr).take j) = c0 := ⟨_, rfl⟩
      obtain ⟨c1, hc1⟩ : ∃ c1, countT (Nd.mk yk yn ybA ybn ybc ybs yaA yan yac yal yt yg ykA ykn ykc yks).tr = c1 := ⟨_, rfl⟩
      rw [hc0, hc1] at hle HT
      rw [hc1] at hih
      rw [hc0]
      clear hc0 hc1 ht hyt hy
      have k2 := (Kept.refl wr).alloc (.cells (ndc yk yn ybA ybn ybc yaA yan yac yt yg ykA ykn ykc) 28)
      have hsum : IntKind.i64.wrap ((1 + c0 : Nat) + (c1 : Nat) : Int) = ((1 + c0 + c1 : Nat) : Int) := by
        rw [IntWalk.i64_in _ (by omega)]
        omega
      go_wp2_with fail
      refine (hih _ (hyo.kept k2) (by omega)).mono ?_
      rintro e w3 ⟨rfl, k3⟩
      go_wp2_with fail
      go_roundw
      case rel => exact ⟨j + 1, hlt, by go_num, (hkept.trans k2).trans k3, by rw [HT.out]; exact congrArg (Value.int .i64) (by omega)⟩
      case measure =>
        simp [intOf]
        omega
    · obtain rfl : j = kn := by omega
      go_wp2_with fail
      go_ret
      refine ⟨?_, hkept⟩
      rw [List.take_of_length_le (by rw [List.length_map, HL.out]; exact Nat.le_refl _), HN.out]
      exact ret_int (by omega)
end Go.Proofs.Ytnlncamiaddhfaa
