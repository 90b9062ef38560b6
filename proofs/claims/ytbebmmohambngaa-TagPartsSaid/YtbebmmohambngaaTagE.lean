/- The law TagParts, walked. -/
import Derived.Test.YtbebmmohambngaaTagD
import Derived.Test.YtbebmmohambngaaTagL
import Derived.Test.YtbebmmohambngaaTagR2
namespace Go.Proofs.Ytbebmmohambngaa
open Go.RowKit

set_option maxHeartbeats 4000000 in
theorem lawParts_any (A : Option Addr) (n c : Nat) (l : List Int) (f t : Int) (w : World) (h : Sl w 1 A n c (l.map (Value.int .i32))) (hr : Rn l) :
    Calls Try.prog 3 #[.slice A n c, .int .i64 f, .int .i64 t] w fun e w' => e = .returned (.bool true) ∧ Kept w w' := by
  have hcap := h.cap
  have hmax := h.max
  go_enter Try.func3, Try.ntmps3
  go_wp2_with fail
  refine (few_any _ _ _ _ hcap hmax).mono ?_
  rintro e _ ⟨⟨m, hm, rfl⟩, rfl⟩
  have hm1 : m ≤ n := by omega
  have hm2 : m ≤ 120 := by omega
  have h2 := h.to1 hm1
  have hr2 := hr.take m
  obtain ⟨L, hL⟩ : ∃ L, l.take m = L := ⟨_, rfl⟩
  rw [hL] at h2 hr2
  clear hL hm h hr hcap hmax hm1
  go_wp2_with fail
  refine (parts_any _ _ _ L f t _ h2 (by omega)).mono ?_
  rintro e w1 ⟨A1, c1, rfl, hP1, hk1, _⟩
  go_wp2_with fail
  refine (rparts_any _ _ _ L f t _ (h2.kept hk1) (by omega) hr2).mono ?_
  rintro e w2 ⟨A2, c2, rfl, hP2, hk2⟩
  have hP1' := hP1.kept hk2
  have hlen := partsL_len L f t
  have hLl := h2.llen1
  have hN : (partsL L f t).length ≤ 120 := by omega
  clear hlen hLl
  obtain ⟨P, hP⟩ : ∃ P, partsL L f t = P := ⟨_, rfl⟩
  rw [hP] at hP1' hP2 hN ⊢
  clear hP hP1
  obtain ⟨N, hNe⟩ : ∃ N, P.length = N := ⟨_, rfl⟩
  rw [hNe] at hP1' hP2 hN ⊢
  clear hNe
  have hK := hk1.trans hk2
  have hcap1 := hP1'.cap
  have hmax1 := hP1'.max
  have hcap2 := hP2.cap
  have hmax2 := hP2.max
  go_wp2_with fail
  go_loopw [27] (fun v wr => ∃ k : Nat, k ≤ N ∧ v = .int .i64 k ∧ Kept w2 wr) (fun v _ => N - (intOf v).toNat)
  case atStart => exact ⟨0, Nat.zero_le _, rfl, Kept.refl _⟩
  case round =>
    obtain ⟨k, hkN, rfl, hkr⟩ := hrel
    by_cases hlt : k < N
    · obtain ⟨b1, o1, p, rfl, hp1, x0, x1, x2, hb1⟩ := elem_prt (hP1'.kept hkr) hlt
      obtain ⟨b2, o2, q, rfl, hq1, y0, y1, y2, hb2⟩ := elem_prt (hP2.kept hkr) hlt
      obtain rfl : p = q := by rw [hp1] at hq1; simpa using hq1
      clear hp1 hq1
      go_wp2_with fail
      go_region_held3 (fun w' => w'.cell? ⟨b1, o1 + k * 3, none⟩ = some (.int .i64 p.k) ∧ w'.cell? ⟨b1, o1 + k * 3 + 1, none⟩ = some (.int .i64 p.f) ∧ w'.cell? ⟨b1, o1 + k * 3 + 2, none⟩ = some (.int .i64 p.t) ∧ w'.cell? ⟨b2, o2 + k * 3, none⟩ = some (.int .i64 p.k) ∧ w'.cell? ⟨b2, o2 + k * 3 + 1, none⟩ = some (.int .i64 p.f) ∧ w'.cell? ⟨b2, o2 + k * 3 + 2, none⟩ = some (.int .i64 p.t))
        (first | go_keep | exact ⟨hk3.cell (by go_simp), hk3.cell (by go_simp), hk3.cell (by go_simp), hk3.cell (by go_simp), hk3.cell (by go_simp), hk3.cell (by go_simp)⟩)
        (first | (go_at_call 9; refine (like_same _ _ _ _).mono ?_; rintro e w3 ⟨rfl, hk3⟩))
      all_goals go_wp2_with fail
      go_roundw
      case rel => exact ⟨k + 1, hlt, by simp, hkr.drew.trans hk3⟩
      case measure =>
        simp [intOf]
        omega
    · go_wp2_with fail
      refine (awake_any _).mono ?_
      rintro e w3 ⟨rfl, hk3⟩
      go_wp2_with fail
      go_ret
      exact ⟨rfl, (hK.trans hkr).trans hk3⟩
end Go.Proofs.Ytbebmmohambngaa
