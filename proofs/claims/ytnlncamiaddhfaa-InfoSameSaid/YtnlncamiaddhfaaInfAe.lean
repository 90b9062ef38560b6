/- The document's without: walked. -/
import Derived.Test.YtnlncamiaddhfaaInfAb
namespace Go.Proofs.Ytnlncamiaddhfaa
open Go.RowKit
attribute [local go_sem ↓] Go.wp_at_zero Go.wp_at_succ

theorem atts_one (l : List Att) : (l.flatMap Att.cells).all (fun u => u.oneCell') = true := by
  rw [List.all_eq_true]
  intro u hu
  obtain ⟨x, _, hx⟩ := List.mem_flatMap.1 hu
  simp only [Att.cells, List.mem_cons, List.not_mem_nil, or_false] at hx
  rcases hx with rfl | rfl | rfl | rfl | rfl
  all_goals rfl
/-- What without answers. -/
def WoOf (l : List Att) (a : Att) (b : Bool) (l' : List Att) : Prop :=
  (b = false ∧ ∀ c ∈ l, meansA a c = false) ∨ (b = true ∧ ∃ i y, l[i]? = some y ∧ meansA a y = true ∧ (∀ c ∈ l.take i, meansA a c = false) ∧ l' = l.take i ++ l.drop (i + 1))
theorem none_take {l : List Att} {a y : Att} {j : Nat} (h : ∀ c ∈ l.take j, meansA a c = false) (hy : l[j]? = some y) (hm : meansA a y = false) : ∀ c ∈ l.take (j + 1), meansA a c = false := by
  intro c hc
  rw [List.take_add_one, hy, Option.toList_some] at hc
  rcases List.mem_append.1 hc with h1 | h1
  · exact h c h1
  · rw [List.mem_singleton.1 h1]
    exact hm
set_option maxHeartbeats 4000000 in
theorem without_any (A : Option Addr) (n c : Nat) (l : List Att) (a : Att) (w : World) (h : Sl w 5 A n c (l.flatMap Att.cells)) (hn : n ≤ 1000000) :
    Calls Try.prog 38 #[.slice A n c, a.val] w fun e w' => ∃ A' n' c' l' b, e = .returned (.tuple #[.slice A' n' c', .bool b]) ∧ Sl w' 5 A' n' c' (l'.flatMap Att.cells) ∧ Hid (WoOf l a b l') ∧ Kept w w' := by
  have hl := h.llen (enc := Att.cells) (fun _ => rfl) (by omega)
  have HL := Lib.hid hl
  have hcap := h.cap
  have hmax := h.max
  show Calls Try.prog 38 #[.slice A n c, .agg #[.string a.n.u, .string a.n.l, .string a.n.p, .string a.v, .bool a.h]] w _
  clear hl
  have B0 := Blk.new w #[.string a.n.u, .string a.n.l, .string a.n.p, .string a.v, .bool a.h] 63
  have k0 : Kept w (w.alloc (.cells #[.string a.n.u, .string a.n.l, .string a.n.p, .string a.v, .bool a.h] 63)) := (Kept.refl w).alloc _
  go_enter Try.func38, Try.ntmps38
  go_upto_region 1 with fail
  change Code.wp _ _ _ _ (w.alloc (.cells #[.string a.n.u, .string a.n.l, .string a.n.p, .string a.v, .bool a.h] 63))
  generalize w.alloc (.cells #[.string a.n.u, .string a.n.l, .string a.n.p, .string a.v, .bool a.h] 63) = w0 at B0 k0 ⊢
  obtain ⟨g0, hg0⟩ : ∃ g, w.heap.size = g := ⟨_, rfl⟩
  rw [hg0] at B0 ⊢
  clear hg0
  have h0 := h.kept k0
  go_wp2_with fail
  go_loopw [10] (fun i wr => ∃ j : Nat, j ≤ n ∧ i = .int .i64 j ∧ Kept w0 wr ∧ Hid (∀ c ∈ l.take j, meansA a c = false)) (fun i _ => n - (intOf i).toNat)
  case atStart => exact ⟨0, Nat.zero_le _, rfl, Kept.refl _, by unfold Hid; simp⟩
  case round =>
    obtain ⟨j, hj, rfl, hkept, HI⟩ := hrel
    by_cases hlt : j < n
    · have hs0 := h0.kept hkept
      obtain ⟨b, o, y, hA, hy, hyc, hyb⟩ := hs0.elemb (enc := Att.cells) (fun _ => rfl) (by omega) hlt
      have HA := Lib.hid hA
      subst hA
      have y0 : wr.cell? ⟨b, o + j * 5, none⟩ = some (.string y.n.u) := hyc 0 _ rfl
      have y1 : wr.cell? ⟨b, o + j * 5 + 1, none⟩ = some (.string y.n.l) := hyc 1 _ rfl
      have y2 : wr.cell? ⟨b, o + j * 5 + 2, none⟩ = some (.string y.n.p) := hyc 2 _ rfl
      have y3 : wr.cell? ⟨b, o + j * 5 + 3, none⟩ = some (.string y.v) := hyc 3 _ rfl
      have y4 : wr.cell? ⟨b, o + j * 5 + 4, none⟩ = some (.bool y.h) := hyc 4 _ rfl
      have HS := Lib.hid (fun hm => none_take HI.out hy hm)
      have HY := Lib.hid hy
      have BX := Blk.new wr #[.string y.n.u, .string y.n.l, .string y.n.p, .string y.v, .bool y.h] 63
      have kx : Kept wr (wr.alloc (.cells #[.string y.n.u, .string y.n.l, .string y.n.p, .string y.v, .bool y.h] 63)) := (Kept.refl wr).alloc _
      clear hyc hy
      go_upto_region 4 with fail
      change Code.wp _ _ _ _ (wr.alloc (.cells #[.string y.n.u, .string y.n.l, .string y.n.p, .string y.v, .bool y.h] 63))
      generalize wr.alloc (.cells #[.string y.n.u, .string y.n.l, .string y.n.p, .string y.v, .bool y.h] 63) = wx at BX kx ⊢
      obtain ⟨gx, hgx⟩ : ∃ g, wr.heap.size = g := ⟨_, rfl⟩
      rw [hgx] at BX ⊢
      have B1 := (B0.kept hkept).kept kx
      have kr := hkept.trans kx
      clear hgx kx y0 y1 y2 y3 y4 hyb hs0
      have a0 : wx.cell? ⟨g0, 0, none⟩ = some (.string a.n.u) := B1.cell 0
      have a1 : wx.cell? ⟨g0, 1, none⟩ = some (.string a.n.l) := B1.cell 1
      have a2 : wx.cell? ⟨g0, 2, none⟩ = some (.string a.n.p) := B1.cell 2
      have b0 : wx.cell? ⟨gx, 0, none⟩ = some (.string y.n.u) := BX.cell 0
      have b1 : wx.cell? ⟨gx, 1, none⟩ = some (.string y.n.l) := BX.cell 1
      have b2 : wx.cell? ⟨gx, 2, none⟩ = some (.string y.n.p) := BX.cell 2
      go_wp2_with fail
      refine (rmeans_any a.n y.n wx).mono ?_
      rintro e w2 ⟨rfl, k2⟩
      have a3 : w2.cell? ⟨g0, 3, none⟩ = some (.string a.v) := (B1.kept k2).cell 3
      have b3 : w2.cell? ⟨gx, 3, none⟩ = some (.string y.v) := (BX.kept k2).cell 3
      have kr2 := kr.trans k2
      clear a0 a1 a2 b0 b1 b2
      have hmd : meansA a y = (meansNm a.n y.n && eqS a.v y.v) := rfl
      obtain ⟨z1, hz1⟩ : ∃ z, meansNm a.n y.n = z := ⟨_, rfl⟩
      obtain ⟨z2, hz2⟩ : ∃ z, eqS a.v y.v = z := ⟨_, rfl⟩
      have fV : (a.v.toList == y.v.toList) = z2 := hz2
      rw [hz1, hz2] at hmd
      have HMD := Lib.hid hmd
      rw [hz1]
      clear hz1 hz2 hmd
      cases z1
      · have HV := Lib.hid (HS.out HMD.out)
        go_wp2_with fail
        go_roundw
        case rel => exact ⟨j + 1, hlt, by go_num, kr2, HV⟩
        case measure =>
          simp [intOf]
          omega
      cases z2
      · have HV := Lib.hid (HS.out HMD.out)
        go_wp2_with fail
        go_roundw
        case rel => exact ⟨j + 1, hlt, by go_num, kr2, HV⟩
        case measure =>
          simp [intOf]
          omega
      go_upto_region 5 with fail
      have KW := k0.trans kr2
      have hs2 := h0.kept kr2
      obtain ⟨C1, hC1⟩ : ∃ C1 : Option Addr, C1 = some ⟨b, o, none⟩ := ⟨_, rfl⟩
      rw [← hC1] at hs2 ⊢
      obtain ⟨C2, hC2⟩ : ∃ C2, cutA C1 c (j + 1) 5 = C2 := ⟨_, rfl⟩
      have hsA := hs2.cutf (enc := Att.cells) (fun _ => rfl) (Nat.zero_le j) (by omega)
      have hcut1 := run_cut_h appT_ratt C1 n c j (by omega)
      have hcut2 : ∀ wv : World, (Instr.slice 25 (.slice C1 n c) (some (.int .i64 ((j : Int) + 1))) none none).run Try.prog wv = .ok (.slice C2 (n - (j + 1)) (c - (j + 1))) wv := by
        intro wv
        have h1 := run_cut_l appT_ratt C1 n c (j + 1) (by omega) wv
        rw [hC2] at h1
        exact h1
      have hsum : IntKind.i64.wrap ((j : Int) + 1) = (j : Int) + 1 := IntWalk.i64_in _ (by omega)
      have hs3 := hs2.to (m := j) (by omega)
      rw [flat_take (enc := Att.cells) (fun _ => rfl)] at hs3
      have hs4 := hs2.cutf (enc := Att.cells) (i := j + 1) (m := n) (fun _ => rfl) (by omega) (Nat.le_refl _)
      rw [hC2] at hs4
      have e4 : (l.drop (j + 1)).take (n - (j + 1)) = l.drop (j + 1) := List.take_of_length_le (by rw [List.length_drop, HL.out]; omega)
      rw [e4] at hs4
      have PK := Lib.hid (fun w' (kk : Kept w2 w') => show Sl w' 5 C1 j c ((l.take j).flatMap Att.cells) ∧ Sl w' 5 C2 (n - (j + 1)) (c - (j + 1)) ((l.drop (j + 1)).flatMap Att.cells) from ⟨hs3.kept kk, hs4.kept kk⟩)
      have o0 := own_lit (w := w2) (base := w2.heap.size) (e := 63) (size := 5) (n := 0) (cs := []) (by rfl) (by omega) (Nat.le_refl _)
      have k00 := (Kept.refl w2).alloc (.cells #[] 63)
      obtain ⟨p1, _⟩ := PK.out _ k00
      have HW : Hid (WoOf l a true (l.take j ++ l.drop (j + 1))) := .inr ⟨rfl, j, y, HY.out, HMD.out, HI.out, rfl⟩
      have jc : (j : Int) ≤ c := by omega
      have jn : (j : Int) + 1 ≤ n := by omega
      have jn2 : n - (j + 1) ≤ 1000000 := by omega
      have jn3 : j ≤ 1000000 := by omega
      clear hC1 hC2 hsA hs2 hs3 hs4 e4 a3 b3 h0 h BX B1 B0
      go_region_held3 (fun _ => True) (first | exact trivial)
        (first
        | (refine step_app w2 (by rfl) _ _ (by rfl) appT_ratt (by rfl) (own_lit (w := w2.drew) (base := w2.heap.size) (size := 5) (n := 0) (cs := []) (by rfl) (by omega) (Nat.le_refl _)) ((Kept.refl w2).drew.alloc _) (by rfl) ((PK.out _ ((Kept.refl w2).drew.alloc _)).1) ⟨atts_one _, by omega⟩ ?_; intro v6 w6 hown6 hk6 hgr6 hob6)
        | (refine step_app w2 (by rfl) _ _ (by rfl) appT_ratt (by rfl) hown6 hk6 (by rfl) ((PK.out _ hk6).2) ⟨atts_one _, by omega⟩ ?_; intro v7 w7 hown7 hk7 hgr7 hob7))
      obtain ⟨A7, c7, rfl, hS7⟩ := Sl.of_own hown7
      have e7 : [] ++ List.flatMap Att.cells (List.take j l) ++ List.flatMap Att.cells (List.drop (j + 1) l) = (l.take j ++ l.drop (j + 1)).flatMap Att.cells := by
        rw [List.nil_append, List.flatMap_append]
      rw [e7] at hS7
      have KZ := KW.trans hk7
      clear e7 hown7 hown6 hgr6 hgr7 hob6 hob7 hcut1 hcut2 PK
      go_wp2_with fail
      go_ret2
      exact ⟨A7, _, c7, _, true, rfl, hS7, HW, KZ⟩
    · obtain rfl : j = n := by omega
      have HE : Hid (WoOf l a false l) := .inl ⟨rfl, by
        have h1 := HI.out
        rwa [List.take_of_length_le (by rw [HL.out]; exact Nat.le_refl _)] at h1⟩
      have hF := h0.kept hkept
      have KF := k0.trans hkept
      go_wp2_with fail
      go_ret2
      exact ⟨_, _, _, l, _, rfl, hF, HE, KF⟩
end Go.Proofs.Ytnlncamiaddhfaa
