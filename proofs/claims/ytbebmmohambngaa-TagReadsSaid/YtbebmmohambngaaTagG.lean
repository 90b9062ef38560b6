/- The law TagReads, walked. -/
import Derived.Test.YtbebmmohambngaaTagF
import Derived.Test.YtbebmmohambngaaTagL
namespace Go.Proofs.Ytbebmmohambngaa
open Go.RowKit

theorem rread_any (A : Option Addr) (n c : Nat) (l : List Int) (f t : Int) (w : World) (h : Sl w 1 A n c (l.map (Value.int .i32))) (hn : n ≤ 1000000) (hr : Rn l) :
    Calls Try.prog 12 #[.slice A n c, .int .i64 f, .int .i64 t] w fun e w' => TagOf (readF (partsL l f t)) e w w' := by
  cases ht : takeF [1, 2] (partsL l f t)
  · have hF : readF (partsL l f t) = ⟨noPrt, [], false, false⟩ := by
      unfold readF
      rw [ht]
      rfl
    rw [hF]
    exact rread_none A n c l f t w h hn hr ht
  · exact rread_some A n c l f t w h hn hr ht

set_option maxRecDepth 100000 in
set_option maxHeartbeats 8000000 in
theorem lawReads_any (A : Option Addr) (n c : Nat) (l : List Int) (f t : Int) (w : World) (h : Sl w 1 A n c (l.map (Value.int .i32))) (hr : Rn l) :
    Calls Try.prog 4 #[.slice A n c, .int .i64 f, .int .i64 t] w fun e w' => e = .returned (.bool true) ∧ Kept w w' := by
  have hcap := h.cap
  have hmax := h.max
  go_enter Try.func4, Try.ntmps4
  go_wp2_with fail
  refine (few_any _ _ _ _ hcap hmax).mono ?_
  rintro e _ ⟨⟨m, hm, rfl⟩, rfl⟩
  have hm1 : m ≤ n := by omega
  have hm2 : m ≤ 120 := by omega
  have h2 := h.to1 hm1
  have hr2 := hr.take m
  obtain ⟨L, hL⟩ : ∃ L, l.take m = L := ⟨_, rfl⟩
  rw [hL] at h2 hr2
  clear hL hm h hr hcap hmax hm1
  go_wp2_with fail
  refine (read_any _ _ _ L f t _ h2 (by omega)).mono ?_
  rintro e w1 ⟨A1, c1, rfl, hP1, hk1⟩
  go_wp2_with fail
  refine (rread_any _ _ _ L f t _ (h2.kept hk1) (by omega) hr2).mono ?_
  rintro e w2 ⟨A2, c2, rfl, hP2, hk2⟩
  have hP1' := hP1.kept hk2
  obtain ⟨G, hG⟩ : ∃ G, readF (partsL L f t) = G := ⟨_, rfl⟩
  rw [hG] at hP1' hP2 ⊢
  clear hG hP1
  obtain ⟨⟨nk, nf, nt⟩, os, rt, em⟩ := G
  dsimp only at hP1' hP2 ⊢
  obtain ⟨N, hNe⟩ : ∃ N, os.length = N := ⟨_, rfl⟩
  rw [hNe] at hP1' hP2 ⊢
  clear hNe
  have hK := hk1.trans hk2
  have hcap1 := hP1'.cap
  have hmax1 := hP1'.max
  have hcap2 := hP2.cap
  have hmax2 := hP2.max
  have D1 := (Blk.new w2 #[.int .i64 nk, .int .i64 nf, .int .i64 nt, .slice A1 N c1, .bool rt, .bool em] 36).alloc (.cells #[.int .i64 nk, .int .i64 nf, .int .i64 nt, .slice A2 N c2, .bool rt, .bool em] 40)
  have D2 := Blk.new (w2.alloc (.cells #[.int .i64 nk, .int .i64 nf, .int .i64 nt, .slice A1 N c1, .bool rt, .bool em] 36)) #[.int .i64 nk, .int .i64 nf, .int .i64 nt, .slice A2 N c2, .bool rt, .bool em] 40
  go_wp2_with fail
  refine (like_same _ _ _ _).mono ?_
  rintro e w3 ⟨rfl, hk3⟩
  have E1 := D1.kept hk3
  have E2 := D2.kept hk3
  simp at E2
  have HK3 := ((Kept.refl w2).alloc (.cells #[.int .i64 nk, .int .i64 nf, .int .i64 nt, .slice A1 N c1, .bool rt, .bool em] 36)).alloc (.cells #[.int .i64 nk, .int .i64 nf, .int .i64 nt, .slice A2 N c2, .bool rt, .bool em] 40) |>.trans hk3
  have hP13 := hP1'.kept HK3
  have hP23 := hP2.kept HK3
  have hK3 := hK.trans HK3
  have f7 := E1.cell
  have f8 := E2.cell
  clear D1 D2 hk3 hP1' hP2 h2 hk1 hk2
  go_wp2_with fail
  clear f7 f8
  go_loopw [53] (fun v wr => ∃ k : Nat, k ≤ N ∧ v = .int .i64 k ∧ Kept w3 wr) (fun v _ => N - (intOf v).toNat)
  case atStart => exact ⟨0, Nat.zero_le _, rfl, Kept.refl _⟩
  case round =>
    obtain ⟨k, hkN, rfl, hkr⟩ := hrel
    by_cases hlt : k < N
    · obtain ⟨b1, o1, p, rfl, hp1, ⟨x0, x1, x2, x3, x4, x5, x6, x7, x8⟩, hb1⟩ := elem_atr (hP13.kept hkr) hlt
      obtain ⟨b2, o2, q, rfl, hq1, ⟨y0, y1, y2, y3, y4, y5, y6, y7, y8⟩, hb2⟩ := elem_atr (hP23.kept hkr) hlt
      obtain rfl : p = q := by rw [hp1] at hq1; simpa using hq1
      clear hp1 hq1
      have F1 := E1.kept hkr
      have f7 : wr.cell? ⟨w2.heap.size, 3, none⟩ = some (.slice (some ⟨b1, o1, none⟩) N c1) := F1.cell 3
      have l1 := F1.lt
      have n1 : (b1 = wr.heap.size) = False := by simp; omega
      have n1' : (wr.heap.size = b1) = False := by simp; omega
      have n2 : (w2.heap.size = wr.heap.size) = False := by simp; omega
      have n2' : (wr.heap.size = w2.heap.size) = False := by simp; omega
      go_wp2_with fail
      go_region_held3 (fun w' => w'.cell? ⟨w2.heap.size, 3, none⟩ = some (.slice (some ⟨b1, o1, none⟩) N c1) ∧ w'.cell? ⟨b1, o1 + k * 9, none⟩ = some (.int .i64 p.name.k) ∧ w'.cell? ⟨b1, o1 + k * 9 + 1, none⟩ = some (.int .i64 p.name.f) ∧ w'.cell? ⟨b1, o1 + k * 9 + 2, none⟩ = some (.int .i64 p.name.t) ∧ w'.cell? ⟨b1, o1 + k * 9 + 3, none⟩ = some (.int .i64 p.value.k) ∧ w'.cell? ⟨b1, o1 + k * 9 + 4, none⟩ = some (.int .i64 p.value.f) ∧ w'.cell? ⟨b1, o1 + k * 9 + 5, none⟩ = some (.int .i64 p.value.t) ∧ w'.cell? ⟨b1, o1 + k * 9 + 6, none⟩ = some (.int .i64 p.all.k) ∧ w'.cell? ⟨b1, o1 + k * 9 + 7, none⟩ = some (.int .i64 p.all.f) ∧ w'.cell? ⟨b1, o1 + k * 9 + 8, none⟩ = some (.int .i64 p.all.t) ∧ w'.cell? ⟨wr.heap.size, 0, none⟩ = some (.int .i64 p.name.k) ∧ w'.cell? ⟨wr.heap.size, 1, none⟩ = some (.int .i64 p.name.f) ∧ w'.cell? ⟨wr.heap.size, 2, none⟩ = some (.int .i64 p.name.t) ∧ w'.cell? ⟨wr.heap.size, 3, none⟩ = some (.int .i64 p.value.k) ∧ w'.cell? ⟨wr.heap.size, 4, none⟩ = some (.int .i64 p.value.f) ∧ w'.cell? ⟨wr.heap.size, 5, none⟩ = some (.int .i64 p.value.t) ∧ w'.cell? ⟨wr.heap.size, 6, none⟩ = some (.int .i64 p.all.k) ∧ w'.cell? ⟨wr.heap.size, 7, none⟩ = some (.int .i64 p.all.f) ∧ w'.cell? ⟨wr.heap.size, 8, none⟩ = some (.int .i64 p.all.t) ∧ Kept wr w') (first | (refine ⟨?_, ?_, ?_, ?_, ?_, ?_, ?_, ?_, ?_, ?_, ?_, ?_, ?_, ?_, ?_, ?_, ?_, ?_, ?_, ?_⟩ <;> first | (with_reducible exact ((Kept.refl _).alloc _).drew) | (go_split_ands; exact hk4.cell (by assumption)) | (go_split_ands; exact Kept.trans (by assumption) hk4) | simp [go_sem, *])) (first | (go_at_call 9; refine (like_same _ _ _ _).mono ?_; rintro e w4 ⟨rfl, hk4⟩))
      all_goals go_wp2_with fail
      go_split_ands
      go_roundw
      case rel => exact ⟨k + 1, hlt, by simp, hkr.trans (by assumption)⟩
      case measure =>
        simp [intOf]
        omega
    · go_wp2_with fail
      refine (awake_any _).mono ?_
      rintro e w4 ⟨rfl, hk4⟩
      go_wp2_with fail
      go_ret
      exact ⟨rfl, (hK3.trans hkr).trans hk4⟩
end Go.Proofs.Ytbebmmohambngaa
