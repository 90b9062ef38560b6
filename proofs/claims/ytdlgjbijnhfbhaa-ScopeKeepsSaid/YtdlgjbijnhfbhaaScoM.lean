/- Bindings as the program's, and the scopes that lists of bindings make: walked. -/
import Derived.Test.YtdlgjbijnhfbhaaScoR
namespace Go.Proofs.Ytdlgjbijnhfbhaa
open Go.RowKit
attribute [local go_sem ↓] Go.wp_at_zero Go.wp_at_succ

set_option maxHeartbeats 4000000 in
theorem ours_any (A : Option Addr) (n c : Nat) (L : List Bd) (w : World) (h : Sl w 2 A n c (L.flatMap Bd.cells)) :
    Calls Try.prog 19 #[.slice A n c] w fun e w' => ∃ m VA VC, m = min n 6 ∧ e = .returned (.slice VA m VC) ∧ Sl w' 2 VA m VC ((L.take m).flatMap Bd.cells) ∧ Kept w w' := by
  have hL := h.llen (enc := Bd.cells) (fun _ => rfl) (by omega)
  have HL := Lib.hid hL
  have hcap := h.cap
  have hmax := h.max
  clear hL
  go_enter Try.func19, Try.ntmps19
  go_wp2_with fail
  go_loopw [3, 8] (fun v i wr => ∃ k m : Nat, k ≤ n ∧ Hid (m = min k 6) ∧ i = .int .i64 k ∧ wr.ownsRow w.heap.size 45 2 v m ((L.take m).flatMap Bd.cells) ∧ Kept w wr) (fun _ i _ => n - (intOf i).toNat)
  case atStart => exact ⟨0, 0, Nat.zero_le _, rfl, rfl, ⟨rfl, .inl ⟨rfl, rfl⟩⟩, Kept.refl _⟩
  case round =>
    obtain ⟨k, m, hk, HM, rfl, hown, hkept⟩ := hrel
    by_cases hlt : k < n
    · obtain ⟨b, o, x, rfl, hx, x0, x1, hb⟩ := elem_bd (h.kept hkept) hlt
      have HX := Lib.hid hx
      clear hx
      have kb : Kept wr _ := (Kept.refl wr).alloc (.cells #[.string x.p, .string x.u] 46)
      have bx := Blk.new wr #[.string x.p, .string x.u] 46
      go_upto_region 5 with fail
      generalize wr.alloc (.cells #[.string x.p, .string x.u] 46) = w3 at kb bx ⊢
      obtain ⟨g3, hg3⟩ : ∃ g3, wr.heap.size = g3 := ⟨_, rfl⟩
      rw [hg3] at bx ⊢
      clear hg3
      have own3 := own_kept hown kb
      have k3 := hkept.trans kb
      have bf := bx.cell
      have bf0 := bf 0
      have bf1 := bf 1
      by_cases h6 : k < 6
      · have hmk : m = k := by have := HM.out; omega
        subst hmk
        have l1 : (m : Int) < 6 := by omega
        go_wp2_with (at_builtin; refine wpList_push w (by rfl) _ _ (by rfl) appT_bds (by rfl) own3 k3 (by rfl) (by exact ⟨by rfl, by rfl, by rfl, by omega⟩) ?_; intro v5 w5 hown5 hk5 hgr5 hob5)
        clear hgr5 hob5
        go_roundw
        case rel =>
          refine ⟨m + 1, m + 1, hlt, by unfold Hid; omega, by go_num, ?_, hk5⟩
          rw [List.take_add_one, HX.out, List.flatMap_append]
          exact hown5
        case measure =>
          simp [intOf]
          omega
      · have hmk : m = 6 := by have := HM.out; omega
        subst hmk
        have l1 : ¬ (k : Int) < 6 := by omega
        have l2 : ¬ k < 6 := h6
        go_wp2_with fail
        go_roundw
        case rel => exact ⟨k + 1, 6, hlt, by unfold Hid; omega, by go_num, own3, k3⟩
        case measure =>
          simp [intOf]
          omega
    · obtain rfl : k = n := by omega
      obtain ⟨VA, VC, rfl, hV⟩ := Sl.of_own hown
      go_wp2_with fail
      go_ret
      exact ⟨m, VA, VC, HM.out, rfl, hV, hkept⟩
end Go.Proofs.Ytdlgjbijnhfbhaa
