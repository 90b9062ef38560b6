/- The laws SpliceSorted, SpliceApplies, SpliceBack: walked. -/
import Derived.Test.YtdfipecgalnioaaSplL
namespace Go.Proofs.Ytdfipecgalnioaa
open Go.RowKit
attribute [local go_sem ↓] Go.wp_at_zero Go.wp_at_succ

theorem oks_few {w : World} {L : List Ch} (h : ∀ x ∈ L, x.ok w) : ∀ x ∈ (L.take 8).map cutCh, x.ok w := by
  intro x hx
  obtain ⟨y, hy, rfl⟩ := List.mem_map.1 hx
  exact cutCh_ok (h y (List.mem_of_mem_take hy))
theorem few_n {L : List Ch} : ∀ x ∈ (L.take 8).map cutCh, x.n ≤ 80 := by
  intro x hx
  obtain ⟨y, hy, rfl⟩ := List.mem_map.1 hx
  exact Nat.min_le_right _ _
set_option maxHeartbeats 4000000 in
theorem spliceSorted_any (A : Option Addr) (n c : Nat) (L : List Ch) (w : World) (h : Sl w 3 A n c (L.flatMap Ch.cells)) (hok : ∀ x ∈ L, x.ok w) :
    Calls Try.prog 3 #[.slice A n c] w fun e w' => e = .returned (.bool true) ∧ Kept w w' := by
  have HOK := Lib.hid hok
  have hfew := few_any A n c L w h hok
  have HF := Lib.hid hfew
  clear hfew hok
  go_enter Try.func3, Try.ntmps3
  go_wp2_with fail
  refine HF.out.mono ?_
  rintro e w1 ⟨VA, VN, VC, rfl, hVN, hV, k1⟩
  have hok1 := oks_kept (oks_few HOK.out) k1
  have hfn := few_n (L := L)
  obtain ⟨M, hM⟩ : ∃ M, (L.take 8).map cutCh = M := ⟨_, rfl⟩
  rw [hM] at hV hok1 hfn
  have HOK1 := Lib.hid hok1
  have HFN := Lib.hid hfn
  clear hM hok1 hfn
  go_wp2_with fail
  refine (ours_any _ _ _ M _ hV (by omega)).mono ?_
  rintro e w2 ⟨VA2, VC2, rfl, hV2, k2⟩
  have hs := sorted_any VA2 VN VC2 M w2 hV2 (oks_kept HOK1.out k2) (by omega) (fun x hx => Nat.le_trans (HFN.out x hx) (by omega))
  have HS := Lib.hid hs
  clear hs
  by_cases he : errK (M.map Ch.k) = 0
  · have hs2 : Calls Try.prog 8 #[.slice VA2 VN VC2] w2 fun e w' => ∃ (A : Option Addr) (n c : Nat) (S : List Ch), e = .returned (.tuple #[.slice A n c, .int .i64 0]) ∧ Sl w' 3 A n c (S.flatMap Ch.cells) ∧ (∀ x ∈ S, x.ok w') ∧ S.map Ch.k = srt (M.map Ch.k) ∧ Kept w2 w' := by
      refine HS.out.mono ?_
      rintro e w' ⟨h1, ⟨h2, _⟩ | ⟨_, A, n, c, S, h3, h4, h5, h6⟩⟩
      · exact absurd he h2
      · exact ⟨A, n, c, S, h3, h4, h5, h6, h1⟩
    have HS2 := Lib.hid hs2
    clear hs2
    go_wp2_with fail
    refine HS2.out.mono ?_
    rintro e w3 ⟨A3, n3, c3, S3, rfl, h3, ok3, m3, k3⟩
    have k13 := k2.trans k3
    have hr := rsorted_any VA VN VC M w3 (hV.kept k13) (oks_kept HOK1.out k13) (by omega)
    have hr2 : Calls Try.prog 10 #[.slice VA VN VC] w3 fun e w' => ∃ (A : Option Addr) (n c : Nat) (S : List Ch), e = .returned (.tuple #[.slice A n c, .int .i64 0]) ∧ Sl w' 3 A n c (S.flatMap Ch.cells) ∧ (∀ x ∈ S, x.ok w') ∧ S.map Ch.k = srt (M.map Ch.k) ∧ Kept w3 w' := by
      refine hr.mono ?_
      rintro e w' ⟨h1, ⟨h2, _⟩ | ⟨_, A, n, c, S, h3, h4, h5, h6⟩⟩
      · exact absurd he h2
      · exact ⟨A, n, c, S, h3, h4, h5, h6, h1⟩
    have HR2 := Lib.hid hr2
    have HO3 := Lib.hid ok3
    have HM3 := Lib.hid m3
    clear hr hr2 ok3 m3 he
    go_wp2_with fail
    refine HR2.out.mono ?_
    rintro e w4 ⟨A4, n4, c4, S4, rfl, h4, ok4, m4, k4⟩
    have hn3 : n3 ≤ 1000 := by
      have e1 := map_len HM3.out
      have e2 : (srt (M.map Ch.k)).length = M.length := by unfold srt; rw [sortF_len, List.length_map]
      have e3 := h3.llen (enc := Ch.cells) (fun _ => rfl) (by omega)
      have e4 := hV.llen (enc := Ch.cells) (fun _ => rfl) (by omega)
      omega
    have HO4 := Lib.hid ok4
    have HM4 := Lib.hid m4
    clear ok4 m4
    go_wp2_with fail
    refine (same_any _ _ _ S3 _ _ _ S4 _ (h3.kept k4) h4 (oks_kept HO3.out k4) HO4.out (by rw [HM3.out, HM4.out]) hn3).mono ?_
    rintro e w5 ⟨rfl, k5⟩
    go_wp2_with fail
    refine (awake_any _).mono ?_
    rintro e w6 ⟨rfl, k6⟩
    go_wp2_with fail
    go_ret
    exact ⟨rfl, (((k1.trans k13).trans k4).trans k5).trans k6⟩
  · have hs2 : Calls Try.prog 8 #[.slice VA2 VN VC2] w2 fun e w' => e = .returned (.tuple #[.slice none 0 0, .int .i64 (errK (M.map Ch.k))]) ∧ Kept w2 w' := by
      refine HS.out.mono ?_
      rintro e w' ⟨h1, ⟨_, h2⟩ | ⟨h2, _⟩⟩
      · exact ⟨h2, h1⟩
      · exact absurd h2 he
    have HS2 := Lib.hid hs2
    clear hs2
    have hr := fun w3 (k13 : Kept w1 w3) => rsorted_any VA VN VC M w3 (hV.kept k13) (oks_kept HOK1.out k13) (by omega)
    have hr2 : ∀ w3, Kept w1 w3 → Calls Try.prog 10 #[.slice VA VN VC] w3 fun e w' => e = .returned (.tuple #[.slice none 0 0, .int .i64 (errK (M.map Ch.k))]) ∧ Kept w3 w' := by
      intro w3 k13
      refine (hr w3 k13).mono ?_
      rintro e w' ⟨h1, ⟨_, h2⟩ | ⟨h2, _⟩⟩
      · exact ⟨h2, h1⟩
      · exact absurd h2 he
    have HR2 := Lib.hid hr2
    obtain ⟨z, hz⟩ : ∃ z, errK (M.map Ch.k) = z := ⟨_, rfl⟩
    rw [hz] at HS2 HR2
    clear hr hr2 he hz
    go_wp2_with fail
    refine HS2.out.mono ?_
    rintro e w3 ⟨rfl, k3⟩
    go_wp2_with fail
    refine (HR2.out _ (k2.trans k3)).mono ?_
    rintro e w4 ⟨rfl, k4⟩
    go_wp2_with fail
    refine (same_any none 0 0 [] none 0 0 [] _ Sl.nil_ Sl.nil_ (by simp) (by simp) rfl (by omega)).mono ?_
    rintro e w5 ⟨rfl, k5⟩
    go_wp2_with fail
    refine (awake_any _).mono ?_
    rintro e w6 ⟨rfl, k6⟩
    go_wp2_with fail
    go_ret
    exact ⟨rfl, ((((k1.trans k2).trans k3).trans k4).trans k5).trans k6⟩
end Go.Proofs.Ytdfipecgalnioaa
