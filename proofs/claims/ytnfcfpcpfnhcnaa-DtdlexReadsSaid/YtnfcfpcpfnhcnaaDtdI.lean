/- Layer 9: Read: walked. Printed by gen_dtdi.py. -/
import Derived.Test.YtnfcfpcpfnhcnaaDtdH
namespace Go.Proofs.Ytnfcfpcpfnhcnaa
open Go.RowKit
attribute [local go_sem ↓] Go.wp_at_zero Go.wp_at_succ

structure Hd where
  nm : Prt
  pb : Prt
  sy : Prt
  sb : Prt
  ok : Bool
def Hd.none_ : Hd := ⟨Prt.none_, Prt.none_, Prt.none_, Prt.none_, false⟩
def Hd.val (h : Hd) : Value := .agg (hdA h.nm h.pb h.sy h.sb h.ok)
def afterSp (P : List Prt) (a : Nat) : Nat := if tk P a [3] then a + 1 else a
def restF (P : List Prt) (nm pb sy : Prt) (a : Nat) : Hd :=
  if (inD P a).ok = true ∧ tk P (inD P a).a [7] = true ∧ P.length ≤ (inD P a).a + 1 then ⟨nm, pb, sy, (inD P a).sb, true⟩ else Hd.none_
def readF (l : List Int) (P : List Prt) : Hd :=
  if tk P 0 [1, 3, 2] = true ∧ (outD l P 3).ok = true then restF P (nthP P 2) (outD l P 3).pb (outD l P 3).sy (afterSp P (outD l P 3).a) else Hd.none_
theorem outD_le (l : List Int) {P : List Prt} {a : Nat} (ha : a ≤ P.length) : (outD l P a).a ≤ P.length := by
  unfold outD
  split
  · split
    · split
      · rename_i h
        have := tk_le (k := 2) h rfl (by omega) rfl
        dsimp only
        omega
      · exact Nat.zero_le _
    · split
      · split
        · rename_i h
          have := tk_le (k := 4) h rfl (by omega) rfl
          dsimp only
          omega
        · exact Nat.zero_le _
      · exact Nat.zero_le _
  · exact ha
theorem afterSp_le {P : List Prt} {a : Nat} (ha : a ≤ P.length) : afterSp P a ≤ P.length := by
  unfold afterSp
  split
  · rename_i h
    exact tk_le (k := 1) h rfl (by omega) rfl
  · exact ha
/-- A zero head that a call keeps for its answer. -/
@[reducible] def zhd : Array Value := hdA Prt.none_ Prt.none_ Prt.none_ Prt.none_ false
@[reducible] def setH (w : World) (g : Nat) (v0 v1 v2 v3 v4 v5 v6 v7 v8 v9 v10 v11 v12 : Value) : World := (((((((((((((w.setCell ⟨g, 0, none⟩ v0).setCell ⟨g, 1, none⟩ v1).setCell ⟨g, 2, none⟩ v2).setCell ⟨g, 3, none⟩ v3).setCell ⟨g, 4, none⟩ v4).setCell ⟨g, 5, none⟩ v5).setCell ⟨g, 6, none⟩ v6).setCell ⟨g, 7, none⟩ v7).setCell ⟨g, 8, none⟩ v8).setCell ⟨g, 9, none⟩ v9).setCell ⟨g, 10, none⟩ v10).setCell ⟨g, 11, none⟩ v11).setCell ⟨g, 12, none⟩ v12)
theorem blk_setH {w : World} {g : Nat} {t : TypeId} (h : Blk w g zhd t) (v0 v1 v2 v3 v4 v5 v6 v7 v8 v9 v10 v11 v12 : Value) : Blk (setH w g v0 v1 v2 v3 v4 v5 v6 v7 v8 v9 v10 v11 v12) g #[v0, v1, v2, v3, v4, v5, v6, v7, v8, v9, v10, v11, v12] t := by
  have h2 := (((((((((((((h.set 0 v0).set 1 v1).set 2 v2).set 3 v3).set 4 v4).set 5 v5).set 6 v6).set 7 v7).set 8 v8).set 9 v9).set 10 v10).set 11 v11).set 12 v12)
  simp only [zhd, hdA, List.setIfInBounds_toArray, List.set_cons_zero, List.set_cons_succ] at h2
  exact h2
theorem kept_setH {W w : World} {g : Nat} (hk : Kept W w) (hb : W.heap.size ≤ g) (v0 v1 v2 v3 v4 v5 v6 v7 v8 v9 v10 v11 v12 : Value) : Kept W (setH w g v0 v1 v2 v3 v4 v5 v6 v7 v8 v9 v10 v11 v12) := (((((((((((((hk.setCell (p := ⟨g, 0, none⟩) hb v0).setCell (p := ⟨g, 1, none⟩) hb v1).setCell (p := ⟨g, 2, none⟩) hb v2).setCell (p := ⟨g, 3, none⟩) hb v3).setCell (p := ⟨g, 4, none⟩) hb v4).setCell (p := ⟨g, 5, none⟩) hb v5).setCell (p := ⟨g, 6, none⟩) hb v6).setCell (p := ⟨g, 7, none⟩) hb v7).setCell (p := ⟨g, 8, none⟩) hb v8).setCell (p := ⟨g, 9, none⟩) hb v9).setCell (p := ⟨g, 10, none⟩) hb v10).setCell (p := ⟨g, 11, none⟩) hb v11).setCell (p := ⟨g, 12, none⟩) hb v12)
set_option maxHeartbeats 8000000 in
theorem dread_any (A : Option Addr) (n c : Nat) (l : List Int) (f t : Int) (w : World) (h : Sl w 1 A n c (l.map (Value.int .i32))) (hn : n ≤ 100000) (hok : PartsOk n (partL l f t)) (hlen : (partL l f t).length ≤ 1000000) :
    Calls Try.prog 16 #[.slice A n c, .int .i64 f, .int .i64 t] w fun e w' => e = .returned (readF l (partL l f t)).val ∧ Kept w w' := by
  have n1 := prt_nil_eq
  have n2 := prt_some_eq
  have n3 := prt_nil_ne
  have n4 := prt_some_ne
  have HPT := Lib.hid (fun w' (kk : Kept w w') => dparts_any A n c l f t w' (h.kept kk) (by omega))
  obtain ⟨P, hPP⟩ : ∃ P, partL l f t = P := ⟨_, rfl⟩
  rw [hPP] at HPT hok hlen ⊢
  have HOK := Lib.hid hok
  clear hPP hok
  obtain ⟨V, hV⟩ : ∃ V, readF l P = V := ⟨_, rfl⟩
  rw [hV]
  have HV := Lib.hid hV
  clear hV
  have k0 := (Kept.refl w).alloc (.cells zhd 34)
  have b0 := Blk.new w zhd 34
  go_enter Try.func16, Try.ntmps16
  go_upto_region 1 with fail
  have hsz : w.heap.size < (w.alloc (.cells zhd 34)).heap.size := by simp
  change Code.wp _ _ _ _ (w.alloc (.cells zhd 34))
  generalize w.alloc (.cells zhd 34) = w1 at k0 b0 hsz ⊢
  obtain ⟨g6, hg6⟩ : ∃ g6, w.heap.size = g6 := ⟨_, rfl⟩
  rw [hg6] at b0 hsz ⊢
  go_wp2_with fail
  refine (HPT.out _ k0).mono ?_
  rintro e w2 ⟨PA, pn, pc, hpn, rfl, hP, k2⟩
  have k02 := k0.trans k2
  have b2 := b0.kept k2
  have hl2 := h.kept k02
  have HPN := Lib.hid hpn
  have hp1 : pn ≤ 1000000 := by omega
  have hg2 : g6 < w2.heap.size := b2.lt
  have hg6 : w.heap.size ≤ g6 := by omega
  clear k0 k2 b0 hpn hsz h HPT
  go_upto_region 3 with fail
  refine wp_named ?_
  intro w3 hw3
  have R3 : Rx w2 w3 w2.heap.size (w2.heap.size + 1) A n c PA pn pc 0 zhd := by
    rw [hw3]
    refine ⟨((Kept.refl w2).alloc _).alloc _, ?_, ?_, Nat.le_refl _, by omega, by omega⟩
    · exact (Blk.new w2 _ _).alloc _
    · have hb := Blk.new (w2.alloc (.cells (rdr A n c PA pn pc 0) 52)) zhd 34
      rw [World.size_alloc] at hb
      exact hb
  clear hw3
  obtain ⟨gr, hgr⟩ : ∃ gr, w2.heap.size = gr := ⟨_, rfl⟩
  obtain ⟨gh, hgh⟩ : ∃ gh, w2.heap.size + 1 = gh := ⟨_, rfl⟩
  rw [hgh, hgr] at R3
  rw [hgh, hgr]
  have HT := Lib.hid (fun (w' : World) (a' : Nat) (hs : Array Value) (R' : Rx w2 w' gr gh A n c PA pn pc a' hs) (ha' : a' ≤ pn) (k : Int) => takes_rx (R'.kept ((Kept.refl w').alloc (.cells #[.int .i64 k] 3))) hP ha' hp1 [k] 1 rfl (by omega) (by omega) (some ⟨w'.heap.size, 0, none⟩) 1 (Sl.lit rfl (by omega)))
  have HT3 := Lib.hid (takes_rx (R3.kept ((Kept.refl w3).alloc (.cells #[.int .i64 1, .int .i64 3, .int .i64 2] 3))) hP (Nat.zero_le _) hp1 [1, 3, 2] 3 rfl (by omega) (by omega) (some ⟨w3.heap.size, 0, none⟩) 3 (Sl.lit rfl (by omega)))
  -- how it ends where it is none
  have END : Hid (∀ wx : World, Kept w2 wx → V = Hd.none_ → Blk wx g6 zhd 34 ∧ Kept w wx) := fun wx kk _ => ⟨b2.kept kk, k02.trans kk⟩
  clear hgr hgh R3
  cases t1 : tk P 0 [1, 3, 2]
  · rw [t1] at HT3
    have HVV := Lib.hid (show V = Hd.none_ by rw [← HV.out]; unfold readF; rw [t1]; simp)
    go_wp2_with fail
    refine HT3.out.mono ?_
    rintro e w4 ⟨rfl, R4⟩
    obtain ⟨b4, k4⟩ := END.out w4 R4.k HVV.out
    have HVV := Lib.hid (show V = Hd.none_ by rw [← HV.out]; unfold readF; rw [t1]; simp)
    obtain ⟨bZ, kZ⟩ := END.out w4 R4.k HVV.out
    have bcx := bZ.cell
    have bf := bZ.frozen
    have bl := bZ.lt
    have z0 : w4.cell? ⟨g6, 0, none⟩ = some (.int .i64 0) := bcx 0
    have z1 : w4.cell? ⟨g6, 1, none⟩ = some (.int .i64 0) := bcx 1
    have z2 : w4.cell? ⟨g6, 2, none⟩ = some (.int .i64 0) := bcx 2
    have z3 : w4.cell? ⟨g6, 3, none⟩ = some (.int .i64 0) := bcx 3
    have z4 : w4.cell? ⟨g6, 4, none⟩ = some (.int .i64 0) := bcx 4
    have z5 : w4.cell? ⟨g6, 5, none⟩ = some (.int .i64 0) := bcx 5
    have z6 : w4.cell? ⟨g6, 6, none⟩ = some (.int .i64 0) := bcx 6
    have z7 : w4.cell? ⟨g6, 7, none⟩ = some (.int .i64 0) := bcx 7
    have z8 : w4.cell? ⟨g6, 8, none⟩ = some (.int .i64 0) := bcx 8
    have z9 : w4.cell? ⟨g6, 9, none⟩ = some (.int .i64 0) := bcx 9
    have z10 : w4.cell? ⟨g6, 10, none⟩ = some (.int .i64 0) := bcx 10
    have z11 : w4.cell? ⟨g6, 11, none⟩ = some (.int .i64 0) := bcx 11
    have z12 : w4.cell? ⟨g6, 12, none⟩ = some (.bool false) := bcx 12
    clear bcx
    go_wp2_with fail
    have bN := blk_setH bZ (.int .i64 0) (.int .i64 0) (.int .i64 0) (.int .i64 0) (.int .i64 0) (.int .i64 0) (.int .i64 0) (.int .i64 0) (.int .i64 0) (.int .i64 0) (.int .i64 0) (.int .i64 0) (.bool false)
    have kN := kept_setH kZ hg6 (.int .i64 0) (.int .i64 0) (.int .i64 0) (.int .i64 0) (.int .i64 0) (.int .i64 0) (.int .i64 0) (.int .i64 0) (.int .i64 0) (.int .i64 0) (.int .i64 0) (.int .i64 0) (.bool false)
    change bodyPost _ _ _ _ _ (setH w4 g6 (.int .i64 0) (.int .i64 0) (.int .i64 0) (.int .i64 0) (.int .i64 0) (.int .i64 0) (.int .i64 0) (.int .i64 0) (.int .i64 0) (.int .i64 0) (.int .i64 0) (.int .i64 0) (.bool false))
    generalize setH w4 g6 (.int .i64 0) (.int .i64 0) (.int .i64 0) (.int .i64 0) (.int .i64 0) (.int .i64 0) (.int .i64 0) (.int .i64 0) (.int .i64 0) (.int .i64 0) (.int .i64 0) (.int .i64 0) (.bool false) = wN at bN kN ⊢
    have cN := bN.cell
    have d0 := cN 0
    have d1 := cN 1
    have d2 := cN 2
    have d3 := cN 3
    have d4 := cN 4
    have d5 := cN 5
    have d6 := cN 6
    have d7 := cN 7
    have d8 := cN 8
    have d9 := cN 9
    have d10 := cN 10
    have d11 := cN 11
    have d12 := cN 12
    exact bodyPost_ret (v := .agg #[.int .i64 0, .int .i64 0, .int .i64 0, .int .i64 0, .int .i64 0, .int .i64 0, .int .i64 0, .int .i64 0, .int .i64 0, .int .i64 0, .int .i64 0, .int .i64 0, .bool false]) (by simp [results, Try.results16, go_sem, d0, d1, d2, d3, d4, d5, d6, d7, d8, d9, d10, d11, d12]) rfl ⟨by rw [HVV.out]; rfl, kN⟩
  rw [t1] at HT3
  have HT3' : Hid (Calls Try.prog 31 #[.pointer (some ⟨gr, 0, none⟩), .slice (some ⟨w3.heap.size, 0, none⟩) 3 3] (w3.alloc (.cells #[.int .i64 1, .int .i64 3, .int .i64 2] 3)) fun e w' => ∃ b o cc, 3 ≤ cc ∧ e = .returned (.slice (some ⟨b, o, none⟩) 3 cc) ∧ TkC w2 P 0 3 b o ∧ Rx w2 w' gr gh A n c PA pn pc 3 zhd) := HT3.out
  have ha3 : 3 ≤ pn := by
    have := tk_le (k := 3) t1 rfl (by omega) HPN.out.symm
    omega
  have hra := outD_le l (P := P) (a := 3) (by have := HPN.out; omega)
  have HO := Lib.hid (fun w' (R' : Rx w2 w' gr gh A n c PA pn pc 3 zhd) => outside_any R' hl2 (by omega) hP hp1 ha3 HOK.out)
  obtain ⟨⟨rok, ra, rpb, rsy⟩, hr⟩ : ∃ r, outD l P 3 = r := ⟨_, rfl⟩
  rw [hr] at HO hra
  have HR := Lib.hid hr
  dsimp only at hra
  rw [HPN.out.symm] at hra
  clear HT3 hr
  cases rok
  · go_wp2_with fail
    refine HT3'.out.mono ?_
    rintro e w4 ⟨b, o, cc, hcc, rfl, ⟨hb, hTC⟩, R4⟩
    go_wp2_with fail
    refine (HO.out _ R4).mono ?_
    rintro e w5 ⟨rfl, k5, _⟩
    have HVV := Lib.hid (show V = Hd.none_ by rw [← HV.out]; unfold readF; rw [HR.out]; simp)
    obtain ⟨bZ, kZ⟩ := END.out w5 k5 HVV.out
    have bcx := bZ.cell
    have bf := bZ.frozen
    have bl := bZ.lt
    have z0 : w5.cell? ⟨g6, 0, none⟩ = some (.int .i64 0) := bcx 0
    have z1 : w5.cell? ⟨g6, 1, none⟩ = some (.int .i64 0) := bcx 1
    have z2 : w5.cell? ⟨g6, 2, none⟩ = some (.int .i64 0) := bcx 2
    have z3 : w5.cell? ⟨g6, 3, none⟩ = some (.int .i64 0) := bcx 3
    have z4 : w5.cell? ⟨g6, 4, none⟩ = some (.int .i64 0) := bcx 4
    have z5 : w5.cell? ⟨g6, 5, none⟩ = some (.int .i64 0) := bcx 5
    have z6 : w5.cell? ⟨g6, 6, none⟩ = some (.int .i64 0) := bcx 6
    have z7 : w5.cell? ⟨g6, 7, none⟩ = some (.int .i64 0) := bcx 7
    have z8 : w5.cell? ⟨g6, 8, none⟩ = some (.int .i64 0) := bcx 8
    have z9 : w5.cell? ⟨g6, 9, none⟩ = some (.int .i64 0) := bcx 9
    have z10 : w5.cell? ⟨g6, 10, none⟩ = some (.int .i64 0) := bcx 10
    have z11 : w5.cell? ⟨g6, 11, none⟩ = some (.int .i64 0) := bcx 11
    have z12 : w5.cell? ⟨g6, 12, none⟩ = some (.bool false) := bcx 12
    clear bcx
    go_wp2_with fail
    have bN := blk_setH bZ (.int .i64 0) (.int .i64 0) (.int .i64 0) (.int .i64 0) (.int .i64 0) (.int .i64 0) (.int .i64 0) (.int .i64 0) (.int .i64 0) (.int .i64 0) (.int .i64 0) (.int .i64 0) (.bool false)
    have kN := kept_setH kZ hg6 (.int .i64 0) (.int .i64 0) (.int .i64 0) (.int .i64 0) (.int .i64 0) (.int .i64 0) (.int .i64 0) (.int .i64 0) (.int .i64 0) (.int .i64 0) (.int .i64 0) (.int .i64 0) (.bool false)
    change bodyPost _ _ _ _ _ (setH w5 g6 (.int .i64 0) (.int .i64 0) (.int .i64 0) (.int .i64 0) (.int .i64 0) (.int .i64 0) (.int .i64 0) (.int .i64 0) (.int .i64 0) (.int .i64 0) (.int .i64 0) (.int .i64 0) (.bool false))
    generalize setH w5 g6 (.int .i64 0) (.int .i64 0) (.int .i64 0) (.int .i64 0) (.int .i64 0) (.int .i64 0) (.int .i64 0) (.int .i64 0) (.int .i64 0) (.int .i64 0) (.int .i64 0) (.int .i64 0) (.bool false) = wN at bN kN ⊢
    have cN := bN.cell
    have d0 := cN 0
    have d1 := cN 1
    have d2 := cN 2
    have d3 := cN 3
    have d4 := cN 4
    have d5 := cN 5
    have d6 := cN 6
    have d7 := cN 7
    have d8 := cN 8
    have d9 := cN 9
    have d10 := cN 10
    have d11 := cN 11
    have d12 := cN 12
    exact bodyPost_ret (v := .agg #[.int .i64 0, .int .i64 0, .int .i64 0, .int .i64 0, .int .i64 0, .int .i64 0, .int .i64 0, .int .i64 0, .int .i64 0, .int .i64 0, .int .i64 0, .int .i64 0, .bool false]) (by simp [results, Try.results16, go_sem, d0, d1, d2, d3, d4, d5, d6, d7, d8, d9, d10, d11, d12]) rfl ⟨by rw [HVV.out]; rfl, kN⟩
  go_wp2_with fail
  refine HT3'.out.mono ?_
  rintro e w4 ⟨b, o, cc, hcc, rfl, ⟨hb, hTC⟩, R4⟩
  obtain ⟨p6, p7, p8, _⟩ := hTC 2 (by omega)
  rw [Nat.zero_add] at p6 p7 p8
  obtain ⟨q, hq⟩ : ∃ q, nthP P 2 = q := ⟨_, rfl⟩
  rw [hq] at p6 p7 p8
  have HQ := Lib.hid hq
  clear hq
  go_wp2_with fail
  refine (HO.out _ R4).mono ?_
  rintro e w5 ⟨rfl, k5, hR5⟩
  have R5 : Rx w2 w5 gr gh A n c PA pn pc ra (hdA Prt.none_ rpb rsy Prt.none_ false) := hR5 rfl
  have y6 : w5.cell? ⟨b, o + 6, none⟩ = some (.int .i64 q.k) := R5.k.cell p6
  have y7 : w5.cell? ⟨b, o + 7, none⟩ = some (.int .i64 q.f) := R5.k.cell p7
  have y8 : w5.cell? ⟨b, o + 8, none⟩ = some (.int .i64 q.t) := R5.k.cell p8
  have hcx := R5.h.cell
  have z0 : w5.cell? ⟨gh, 0, none⟩ = some (.int .i64 Prt.none_.k) := hcx 0
  have z1 : w5.cell? ⟨gh, 1, none⟩ = some (.int .i64 Prt.none_.f) := hcx 1
  have z2 : w5.cell? ⟨gh, 2, none⟩ = some (.int .i64 Prt.none_.t) := hcx 2
  have zf := R5.h.frozen
  have zl := R5.h.lt
  clear hcx hR5 k5
  go_upto_region 7 with fail
  refine wp_named ?_
  intro w6 hw6
  have R6 : Rx w2 w6 gr gh A n c PA pn pc ra (hdA q rpb rsy Prt.none_ false) := by
    rw [hw6]
    have RR := ((R5.set 0 (.int .i64 q.k)).set 1 (.int .i64 q.f)).set 2 (.int .i64 q.t)
    exact RR
  clear hw6 y6 y7 y8 z0 z1 z2 zf zl R5 R4
  go_cut [7, 8] (fun p p' wx => p = .pointer (some ⟨gr, 0, none⟩) ∧ p' = .pointer (some ⟨gh, 0, none⟩) ∧ Rx w2 wx gr gh A n c PA pn pc (afterSp P ra) (hdA q rpb rsy Prt.none_ false))
  case first =>
    cases t3 : tk P ra [3]
    · go_wp2_with fail
      refine (HT.out w6 ra _ R6 hra 3).mono ?_
      intro e w7 h7
      rw [t3] at h7
      obtain ⟨rfl, R7⟩ := h7
      go_wp2_with fail
      go_meet
      refine ⟨rfl, rfl, ?_⟩
      unfold afterSp
      rw [t3, if_neg (by simp)]
      exact R7
    · go_wp2_with fail
      refine (HT.out w6 ra _ R6 hra 3).mono ?_
      intro e w7 h7
      rw [t3] at h7
      obtain ⟨b7, o7, c7, hc7, rfl, _, R7⟩ := h7
      go_wp2_with fail
      go_meet
      refine ⟨rfl, rfl, ?_⟩
      unfold afterSp
      rw [t3, if_pos rfl]
      exact R7
  case rest =>
    obtain ⟨rfl, rfl, R7⟩ := hcut
    have hrd : V = restF P q rpb rsy (afterSp P ra) := by
      rw [← HV.out]
      unfold readF
      rw [t1, HR.out, if_pos ⟨rfl, rfl⟩, HQ.out]
    have has := afterSp_le (P := P) (a := ra) (by have := HPN.out; omega)
    rw [← HPN.out] at has
    obtain ⟨a7, ha7⟩ : ∃ a7, afterSp P ra = a7 := ⟨_, rfl⟩
    rw [ha7] at R7 hrd has
    have HI := Lib.hid (inside_any R7.drew hP hp1 has)
    unfold restF at hrd
    obtain ⟨⟨iok, ia, isb⟩, hi⟩ : ∃ i, inD P a7 = i := ⟨_, rfl⟩
    rw [hi] at HI hrd
    dsimp only at hrd
    have HRD := Lib.hid hrd
    clear hrd HV HR HO HT3' R6 hi ha7 HQ hTC p6 p7 p8 t1

    cases iok
    · go_upto_region 8 with fail
      refine wp_region_held_drew (S := fun _ => True) (by kernel_rfl) trivial (fun hHeld => ?_)
      skip
      refine wpAnyH_take (i := 0) (oi := { dst := some 36, op := Op.move (Operand.tmp 7), type := 50, pos := "dtdlex.go:282", after := #[], guard := none }) (v := ?vvda1) rfl (by kernel_rfl) (by kernel_rfl) (by kernel_rfl) (fun _ _ _ h => h) (Or.inl ⟨by rfl, ?hyda1⟩) (by assumption) ?restda1
      case hyda1 => (intro wS hSw; (try dsimp only at hSw); (repeat (obtain ⟨_, hSw⟩ := hSw)); go_simp; try (with_reducible rfl))
      try simp only [Act.put, List.setIfInBounds_toArray, List.set_cons_zero, List.set_cons_succ]
      refine wpAnyH_ready (rs := [1]) (by kernel_rfl) (by simp) ?_
      refine AllReadyH.cons (o := { dst := some 37, op := Op.call { callee := Callee.value (Operand.func 33), args := #[Operand.tmp 36, Operand.tmp 8], argTypes := #[50, 55] }, type := 4, pos := "dtdlex.go:282", after := #[{ on := 0, ground := Ground.data }], guard := none }) rfl (fun K hK => ?stepda2) ?moreda2
      case stepda2 =>
        go_simp
        go_at_call 33
        refine HI.out.mono ?_
        rintro e w8 ⟨rfl, hia, R8⟩
        dsimp only at hia R8
        go_wp2_with fail
        refine hK.out _ _ (by trivial) (fun hHeld => ?_)
        clear hK K
        try simp only [Act.put, List.setIfInBounds_toArray, List.set_cons_zero, List.set_cons_succ]
        refine wpAnyH_take (i := 2) (oi := { dst := some 38, op := Op.unOp UnOp.not 4 (Operand.tmp 37), type := 4, pos := "dtdlex.go:282", after := #[{ on := 1, ground := Ground.data }], guard := none }) (v := ?vvda3) rfl (by kernel_rfl) (by kernel_rfl) (by kernel_rfl) (fun _ _ _ h => h) (Or.inl ⟨by rfl, ?hyda3⟩) (by assumption) ?restda3
        case hyda3 => (intro wS hSw; (try dsimp only at hSw); (repeat (obtain ⟨_, hSw⟩ := hSw)); go_simp; try (with_reducible rfl))
        try simp only [Act.put, List.setIfInBounds_toArray, List.set_cons_zero, List.set_cons_succ]
        refine wpAnyH_take (i := 3) (oi := { dst := some 39, op := Op.move (Operand.tmp 38), type := 4, pos := "dtdlex.go:282", after := #[{ on := 2, ground := Ground.data }, { on := 1, ground := Ground.chain }], guard := none }) (v := ?vvda4) rfl (by kernel_rfl) (by kernel_rfl) (by kernel_rfl) (fun _ _ _ h => h) (Or.inl ⟨by rfl, ?hyda4⟩) (by assumption) ?restda4
        case hyda4 => (intro wS hSw; (try dsimp only at hSw); (repeat (obtain ⟨_, hSw⟩ := hSw)); go_simp; try (with_reducible rfl))
        try simp only [Act.put, List.setIfInBounds_toArray, List.set_cons_zero, List.set_cons_succ]
        refine wpAnyH_take (i := 4) (oi := { dst := some 40, op := Op.move (Operand.tmp 7), type := 50, pos := "dtdlex.go:282", after := #[{ on := 3, ground := Ground.guard }], guard := some (3, false) }) (v := undef) rfl (by kernel_rfl) (by kernel_rfl) (by kernel_rfl) (fun _ _ _ h => h) (Or.inr ⟨by rfl, rfl⟩) (by assumption) ?restda5
        try simp only [Act.put, List.setIfInBounds_toArray, List.set_cons_zero, List.set_cons_succ]
        refine wpAnyH_take (i := 5) (oi := { dst := some 41, op := Op.buildSlice 64 1 #[(0, Operand.const (Value.int IntKind.i64 7))], type := 64, pos := "dtdlex.go:282", after := #[{ on := 3, ground := Ground.guard }], guard := some (3, false) }) (v := undef) rfl (by kernel_rfl) (by kernel_rfl) (by kernel_rfl) (fun _ _ _ h => h) (Or.inr ⟨by rfl, rfl⟩) (by assumption) ?restda6
        try simp only [Act.put, List.setIfInBounds_toArray, List.set_cons_zero, List.set_cons_succ]
        refine wpAnyH_take (i := 6) (oi := { dst := some 42, op := Op.call { callee := Callee.value (Operand.func 31), args := #[Operand.tmp 40, Operand.tmp 41], argTypes := #[50, 64] }, type := 25, pos := "dtdlex.go:282", after := #[{ on := 4, ground := Ground.data }, { on := 5, ground := Ground.data }, { on := 3, ground := Ground.chain }, { on := 3, ground := Ground.guard }], guard := some (3, false) }) (v := undef) rfl (by kernel_rfl) (by kernel_rfl) (by kernel_rfl) (fun _ _ _ h => h) (Or.inr ⟨by rfl, rfl⟩) (by assumption) ?restda7
        try simp only [Act.put, List.setIfInBounds_toArray, List.set_cons_zero, List.set_cons_succ]
        refine wpAnyH_take (i := 7) (oi := { dst := some 43, op := Op.binOp BinOp.eql 25 (Operand.tmp 42) (Operand.const (Value.slice none 0 0)) 25, type := 4, pos := "dtdlex.go:282", after := #[{ on := 6, ground := Ground.data }, { on := 3, ground := Ground.guard }], guard := some (3, false) }) (v := undef) rfl (by kernel_rfl) (by kernel_rfl) (by kernel_rfl) (fun _ _ _ h => h) (Or.inr ⟨by rfl, rfl⟩) (by assumption) ?restda8
        try simp only [Act.put, List.setIfInBounds_toArray, List.set_cons_zero, List.set_cons_succ]
        refine wpAnyH_take (i := 8) (oi := { dst := some 44, op := Op.pick (Operand.tmp 39) (Operand.const (Value.bool true)) (Operand.tmp 43), type := 4, pos := "dtdlex.go:282", after := #[{ on := 3, ground := Ground.data }, { on := 7, ground := Ground.data }], guard := none }) (v := ?vvda9) rfl (by kernel_rfl) (by kernel_rfl) (by kernel_rfl) (fun _ _ _ h => h) (Or.inl ⟨by rfl, ?hyda9⟩) (by assumption) ?restda9
        case hyda9 => (intro wS hSw; (try dsimp only at hSw); (repeat (obtain ⟨_, hSw⟩ := hSw)); go_simp; try (with_reducible rfl))
        try simp only [Act.put, List.setIfInBounds_toArray, List.set_cons_zero, List.set_cons_succ]
        refine wpAnyH_take (i := 9) (oi := { dst := some 45, op := Op.move (Operand.tmp 44), type := 4, pos := "dtdlex.go:282", after := #[{ on := 8, ground := Ground.data }, { on := 6, ground := Ground.chain }], guard := none }) (v := ?vvda10) rfl (by kernel_rfl) (by kernel_rfl) (by kernel_rfl) (fun _ _ _ h => h) (Or.inl ⟨by rfl, ?hyda10⟩) (by assumption) ?restda10
        case hyda10 => (intro wS hSw; (try dsimp only at hSw); (repeat (obtain ⟨_, hSw⟩ := hSw)); go_simp; try (with_reducible rfl))
        try simp only [Act.put, List.setIfInBounds_toArray, List.set_cons_zero, List.set_cons_succ]
        refine wpAnyH_take (i := 10) (oi := { dst := some 46, op := Op.move (Operand.tmp 7), type := 50, pos := "dtdlex.go:282", after := #[{ on := 9, ground := Ground.guard }], guard := some (9, false) }) (v := undef) rfl (by kernel_rfl) (by kernel_rfl) (by kernel_rfl) (fun _ _ _ h => h) (Or.inr ⟨by rfl, rfl⟩) (by assumption) ?restda11
        try simp only [Act.put, List.setIfInBounds_toArray, List.set_cons_zero, List.set_cons_succ]
        refine wpAnyH_take (i := 11) (oi := { dst := some 47, op := Op.nilCheck (Operand.tmp 46), type := 0, pos := "dtdlex.go:282", after := #[{ on := 10, ground := Ground.data }, { on := 9, ground := Ground.guard }], guard := some (9, false) }) (v := undef) rfl (by kernel_rfl) (by kernel_rfl) (by kernel_rfl) (fun _ _ _ h => h) (Or.inr ⟨by rfl, rfl⟩) (by assumption) ?restda12
        try simp only [Act.put, List.setIfInBounds_toArray, List.set_cons_zero, List.set_cons_succ]
        refine wpAnyH_take (i := 12) (oi := { dst := some 48, op := Op.fieldAddr 52 (Operand.tmp 47) 2, type := 0, pos := "dtdlex.go:282", after := #[{ on := 11, ground := Ground.data }, { on := 9, ground := Ground.guard }], guard := some (9, false) }) (v := undef) rfl (by kernel_rfl) (by kernel_rfl) (by kernel_rfl) (fun _ _ _ h => h) (Or.inr ⟨by rfl, rfl⟩) (by assumption) ?restda13
        try simp only [Act.put, List.setIfInBounds_toArray, List.set_cons_zero, List.set_cons_succ]
        refine wpAnyH_take (i := 13) (oi := { dst := some 49, op := Op.load 3 (Operand.tmp 48), type := 3, pos := "dtdlex.go:282", after := #[{ on := 12, ground := Ground.data }, { on := 9, ground := Ground.guard }], guard := some (9, false) }) (v := undef) rfl (by kernel_rfl) (by kernel_rfl) (by kernel_rfl) (fun _ _ _ h => h) (Or.inr ⟨by rfl, rfl⟩) (by assumption) ?restda14
        try simp only [Act.put, List.setIfInBounds_toArray, List.set_cons_zero, List.set_cons_succ]
        refine wpAnyH_take (i := 14) (oi := { dst := some 50, op := Op.move (Operand.tmp 7), type := 50, pos := "dtdlex.go:282", after := #[{ on := 9, ground := Ground.guard }], guard := some (9, false) }) (v := undef) rfl (by kernel_rfl) (by kernel_rfl) (by kernel_rfl) (fun _ _ _ h => h) (Or.inr ⟨by rfl, rfl⟩) (by assumption) ?restda15
        try simp only [Act.put, List.setIfInBounds_toArray, List.set_cons_zero, List.set_cons_succ]
        refine wpAnyH_take (i := 15) (oi := { dst := some 51, op := Op.nilCheck (Operand.tmp 50), type := 0, pos := "dtdlex.go:282", after := #[{ on := 14, ground := Ground.data }, { on := 9, ground := Ground.guard }], guard := some (9, false) }) (v := undef) rfl (by kernel_rfl) (by kernel_rfl) (by kernel_rfl) (fun _ _ _ h => h) (Or.inr ⟨by rfl, rfl⟩) (by assumption) ?restda16
        try simp only [Act.put, List.setIfInBounds_toArray, List.set_cons_zero, List.set_cons_succ]
        refine wpAnyH_take (i := 16) (oi := { dst := some 52, op := Op.fieldAddr 52 (Operand.tmp 51) 1, type := 0, pos := "dtdlex.go:282", after := #[{ on := 15, ground := Ground.data }, { on := 9, ground := Ground.guard }], guard := some (9, false) }) (v := undef) rfl (by kernel_rfl) (by kernel_rfl) (by kernel_rfl) (fun _ _ _ h => h) (Or.inr ⟨by rfl, rfl⟩) (by assumption) ?restda17
        try simp only [Act.put, List.setIfInBounds_toArray, List.set_cons_zero, List.set_cons_succ]
        refine wpAnyH_take (i := 17) (oi := { dst := some 53, op := Op.load 25 (Operand.tmp 52), type := 25, pos := "dtdlex.go:282", after := #[{ on := 16, ground := Ground.data }, { on := 9, ground := Ground.guard }], guard := some (9, false) }) (v := undef) rfl (by kernel_rfl) (by kernel_rfl) (by kernel_rfl) (fun _ _ _ h => h) (Or.inr ⟨by rfl, rfl⟩) (by assumption) ?restda18
        try simp only [Act.put, List.setIfInBounds_toArray, List.set_cons_zero, List.set_cons_succ]
        refine wpAnyH_take (i := 18) (oi := { dst := some 54, op := Op.call { callee := Callee.builtin Builtin.len, args := #[Operand.tmp 53], argTypes := #[25] }, type := 3, pos := "dtdlex.go:282", after := #[{ on := 17, ground := Ground.data }, { on := 9, ground := Ground.guard }], guard := some (9, false) }) (v := undef) rfl (by kernel_rfl) (by kernel_rfl) (by kernel_rfl) (fun _ _ _ h => h) (Or.inr ⟨by rfl, rfl⟩) (by assumption) ?restda19
        try simp only [Act.put, List.setIfInBounds_toArray, List.set_cons_zero, List.set_cons_succ]
        refine wpAnyH_take (i := 19) (oi := { dst := some 55, op := Op.binOp BinOp.lss 3 (Operand.tmp 49) (Operand.tmp 54) 3, type := 4, pos := "dtdlex.go:282", after := #[{ on := 13, ground := Ground.data }, { on := 18, ground := Ground.data }, { on := 9, ground := Ground.guard }], guard := some (9, false) }) (v := undef) rfl (by kernel_rfl) (by kernel_rfl) (by kernel_rfl) (fun _ _ _ h => h) (Or.inr ⟨by rfl, rfl⟩) (by assumption) ?restda20
        try simp only [Act.put, List.setIfInBounds_toArray, List.set_cons_zero, List.set_cons_succ]
        refine wpAnyH_take (i := 20) (oi := { dst := some 56, op := Op.pick (Operand.tmp 45) (Operand.const (Value.bool true)) (Operand.tmp 55), type := 4, pos := "dtdlex.go:282", after := #[{ on := 9, ground := Ground.data }, { on := 19, ground := Ground.data }], guard := none }) (v := ?vvda21) rfl (by kernel_rfl) (by kernel_rfl) (by kernel_rfl) (fun _ _ _ h => h) (Or.inl ⟨by rfl, ?hyda21⟩) (by assumption) ?restda21
        case hyda21 => (intro wS hSw; (try dsimp only at hSw); (repeat (obtain ⟨_, hSw⟩ := hSw)); go_simp; try (with_reducible rfl))
        try simp only [Act.put, List.setIfInBounds_toArray, List.set_cons_zero, List.set_cons_succ]
        refine wpAnyH_done (by kernel_rfl) ?_ _
        have HVV := Lib.hid (show V = Hd.none_ by rw [HRD.out]; simp)
        obtain ⟨bZ, kZ⟩ := END.out w8 R8.k HVV.out
        have bcx := bZ.cell
        have bf := bZ.frozen
        have bl := bZ.lt
        have z0 : w8.cell? ⟨g6, 0, none⟩ = some (.int .i64 0) := bcx 0
        have z1 : w8.cell? ⟨g6, 1, none⟩ = some (.int .i64 0) := bcx 1
        have z2 : w8.cell? ⟨g6, 2, none⟩ = some (.int .i64 0) := bcx 2
        have z3 : w8.cell? ⟨g6, 3, none⟩ = some (.int .i64 0) := bcx 3
        have z4 : w8.cell? ⟨g6, 4, none⟩ = some (.int .i64 0) := bcx 4
        have z5 : w8.cell? ⟨g6, 5, none⟩ = some (.int .i64 0) := bcx 5
        have z6 : w8.cell? ⟨g6, 6, none⟩ = some (.int .i64 0) := bcx 6
        have z7 : w8.cell? ⟨g6, 7, none⟩ = some (.int .i64 0) := bcx 7
        have z8 : w8.cell? ⟨g6, 8, none⟩ = some (.int .i64 0) := bcx 8
        have z9 : w8.cell? ⟨g6, 9, none⟩ = some (.int .i64 0) := bcx 9
        have z10 : w8.cell? ⟨g6, 10, none⟩ = some (.int .i64 0) := bcx 10
        have z11 : w8.cell? ⟨g6, 11, none⟩ = some (.int .i64 0) := bcx 11
        have z12 : w8.cell? ⟨g6, 12, none⟩ = some (.bool false) := bcx 12
        clear bcx
        go_wp2_with fail
        have bN := blk_setH bZ (.int .i64 0) (.int .i64 0) (.int .i64 0) (.int .i64 0) (.int .i64 0) (.int .i64 0) (.int .i64 0) (.int .i64 0) (.int .i64 0) (.int .i64 0) (.int .i64 0) (.int .i64 0) (.bool false)
        have kN := kept_setH kZ hg6 (.int .i64 0) (.int .i64 0) (.int .i64 0) (.int .i64 0) (.int .i64 0) (.int .i64 0) (.int .i64 0) (.int .i64 0) (.int .i64 0) (.int .i64 0) (.int .i64 0) (.int .i64 0) (.bool false)
        change bodyPost _ _ _ _ _ (setH w8 g6 (.int .i64 0) (.int .i64 0) (.int .i64 0) (.int .i64 0) (.int .i64 0) (.int .i64 0) (.int .i64 0) (.int .i64 0) (.int .i64 0) (.int .i64 0) (.int .i64 0) (.int .i64 0) (.bool false))
        generalize setH w8 g6 (.int .i64 0) (.int .i64 0) (.int .i64 0) (.int .i64 0) (.int .i64 0) (.int .i64 0) (.int .i64 0) (.int .i64 0) (.int .i64 0) (.int .i64 0) (.int .i64 0) (.int .i64 0) (.bool false) = wN at bN kN ⊢
        have cN := bN.cell
        have d0 := cN 0
        have d1 := cN 1
        have d2 := cN 2
        have d3 := cN 3
        have d4 := cN 4
        have d5 := cN 5
        have d6 := cN 6
        have d7 := cN 7
        have d8 := cN 8
        have d9 := cN 9
        have d10 := cN 10
        have d11 := cN 11
        have d12 := cN 12
        exact bodyPost_ret (v := .agg #[.int .i64 0, .int .i64 0, .int .i64 0, .int .i64 0, .int .i64 0, .int .i64 0, .int .i64 0, .int .i64 0, .int .i64 0, .int .i64 0, .int .i64 0, .int .i64 0, .bool false]) (by simp [results, Try.results16, go_sem, d0, d1, d2, d3, d4, d5, d6, d7, d8, d9, d10, d11, d12]) rfl ⟨by rw [HVV.out]; rfl, kN⟩
      exact AllReadyH.nil
    cases t7 : tk P ia [7]
    · go_upto_region 8 with fail
      refine wp_region_held_drew (S := fun _ => True) (by kernel_rfl) trivial (fun hHeld => ?_)
      skip
      refine wpAnyH_take (i := 0) (oi := { dst := some 36, op := Op.move (Operand.tmp 7), type := 50, pos := "dtdlex.go:282", after := #[], guard := none }) (v := ?vvdb1) rfl (by kernel_rfl) (by kernel_rfl) (by kernel_rfl) (fun _ _ _ h => h) (Or.inl ⟨by rfl, ?hydb1⟩) (by assumption) ?restdb1
      case hydb1 => (intro wS hSw; (try dsimp only at hSw); (repeat (obtain ⟨_, hSw⟩ := hSw)); go_simp; try (with_reducible rfl))
      try simp only [Act.put, List.setIfInBounds_toArray, List.set_cons_zero, List.set_cons_succ]
      refine wpAnyH_ready (rs := [1]) (by kernel_rfl) (by simp) ?_
      refine AllReadyH.cons (o := { dst := some 37, op := Op.call { callee := Callee.value (Operand.func 33), args := #[Operand.tmp 36, Operand.tmp 8], argTypes := #[50, 55] }, type := 4, pos := "dtdlex.go:282", after := #[{ on := 0, ground := Ground.data }], guard := none }) rfl (fun K hK => ?stepdb2) ?moredb2
      case stepdb2 =>
        go_simp
        go_at_call 33
        refine HI.out.mono ?_
        rintro e w8 ⟨rfl, hia, R8⟩
        dsimp only at hia R8
        go_wp2_with fail
        refine hK.out _ _ (by trivial) (fun hHeld => ?_)
        clear hK K
        try simp only [Act.put, List.setIfInBounds_toArray, List.set_cons_zero, List.set_cons_succ]
        refine wpAnyH_take (i := 2) (oi := { dst := some 38, op := Op.unOp UnOp.not 4 (Operand.tmp 37), type := 4, pos := "dtdlex.go:282", after := #[{ on := 1, ground := Ground.data }], guard := none }) (v := ?vvdb3) rfl (by kernel_rfl) (by kernel_rfl) (by kernel_rfl) (fun _ _ _ h => h) (Or.inl ⟨by rfl, ?hydb3⟩) (by assumption) ?restdb3
        case hydb3 => (intro wS hSw; (try dsimp only at hSw); (repeat (obtain ⟨_, hSw⟩ := hSw)); go_simp; try (with_reducible rfl))
        try simp only [Act.put, List.setIfInBounds_toArray, List.set_cons_zero, List.set_cons_succ]
        refine wpAnyH_take (i := 3) (oi := { dst := some 39, op := Op.move (Operand.tmp 38), type := 4, pos := "dtdlex.go:282", after := #[{ on := 2, ground := Ground.data }, { on := 1, ground := Ground.chain }], guard := none }) (v := ?vvdb4) rfl (by kernel_rfl) (by kernel_rfl) (by kernel_rfl) (fun _ _ _ h => h) (Or.inl ⟨by rfl, ?hydb4⟩) (by assumption) ?restdb4
        case hydb4 => (intro wS hSw; (try dsimp only at hSw); (repeat (obtain ⟨_, hSw⟩ := hSw)); go_simp; try (with_reducible rfl))
        try simp only [Act.put, List.setIfInBounds_toArray, List.set_cons_zero, List.set_cons_succ]
        refine wpAnyH_take (i := 4) (oi := { dst := some 40, op := Op.move (Operand.tmp 7), type := 50, pos := "dtdlex.go:282", after := #[{ on := 3, ground := Ground.guard }], guard := some (3, false) }) (v := ?vvdb5) rfl (by kernel_rfl) (by kernel_rfl) (by kernel_rfl) (fun _ _ _ h => h) (Or.inl ⟨by rfl, ?hydb5⟩) (by assumption) ?restdb5
        case hydb5 => (intro wS hSw; (try dsimp only at hSw); (repeat (obtain ⟨_, hSw⟩ := hSw)); go_simp; try (with_reducible rfl))
        try simp only [Act.put, List.setIfInBounds_toArray, List.set_cons_zero, List.set_cons_succ]
        refine wpAnyH_ready (rs := [5]) (by kernel_rfl) (by simp) ?_
        refine AllReadyH.cons (o := { dst := some 41, op := Op.buildSlice 64 1 #[(0, Operand.const (Value.int IntKind.i64 7))], type := 64, pos := "dtdlex.go:282", after := #[{ on := 3, ground := Ground.guard }], guard := some (3, false) }) rfl (fun K hK => ?stepdb6) ?moredb6
        case stepdb6 =>
          go_simp
          refine hK.out _ _ (by trivial) (fun hHeld => ?_)
          clear hK K
          try simp only [Act.put, List.setIfInBounds_toArray, List.set_cons_zero, List.set_cons_succ]
          refine wpAnyH_ready (rs := [6]) (by kernel_rfl) (by simp) ?_
          refine AllReadyH.cons (o := { dst := some 42, op := Op.call { callee := Callee.value (Operand.func 31), args := #[Operand.tmp 40, Operand.tmp 41], argTypes := #[50, 64] }, type := 25, pos := "dtdlex.go:282", after := #[{ on := 4, ground := Ground.data }, { on := 5, ground := Ground.data }, { on := 3, ground := Ground.chain }, { on := 3, ground := Ground.guard }], guard := some (3, false) }) rfl (fun K hK => ?stepdb7) ?moredb7
          case stepdb7 =>
            go_simp
            go_at_call 31
            refine (HT.out w8 ia _ R8 hia 7).mono ?_
            intro e w9 h9
            rw [t7] at h9
            obtain ⟨rfl, R9⟩ := h9
            go_wp2_with fail
            refine hK.out _ _ (by trivial) (fun hHeld => ?_)
            clear hK K
            try simp only [Act.put, List.setIfInBounds_toArray, List.set_cons_zero, List.set_cons_succ]
            refine wpAnyH_take (i := 7) (oi := { dst := some 43, op := Op.binOp BinOp.eql 25 (Operand.tmp 42) (Operand.const (Value.slice none 0 0)) 25, type := 4, pos := "dtdlex.go:282", after := #[{ on := 6, ground := Ground.data }, { on := 3, ground := Ground.guard }], guard := some (3, false) }) (v := ?vvdb8) rfl (by kernel_rfl) (by kernel_rfl) (by kernel_rfl) (fun _ _ _ h => h) (Or.inl ⟨by rfl, ?hydb8⟩) (by assumption) ?restdb8
            case hydb8 => (intro wS hSw; (try dsimp only at hSw); (repeat (obtain ⟨_, hSw⟩ := hSw)); go_simp; try (with_reducible rfl))
            try simp only [Act.put, List.setIfInBounds_toArray, List.set_cons_zero, List.set_cons_succ]
            refine wpAnyH_take (i := 8) (oi := { dst := some 44, op := Op.pick (Operand.tmp 39) (Operand.const (Value.bool true)) (Operand.tmp 43), type := 4, pos := "dtdlex.go:282", after := #[{ on := 3, ground := Ground.data }, { on := 7, ground := Ground.data }], guard := none }) (v := ?vvdb9) rfl (by kernel_rfl) (by kernel_rfl) (by kernel_rfl) (fun _ _ _ h => h) (Or.inl ⟨by rfl, ?hydb9⟩) (by assumption) ?restdb9
            case hydb9 => (intro wS hSw; (try dsimp only at hSw); (repeat (obtain ⟨_, hSw⟩ := hSw)); go_simp; try (with_reducible rfl))
            try simp only [Act.put, List.setIfInBounds_toArray, List.set_cons_zero, List.set_cons_succ]
            refine wpAnyH_take (i := 9) (oi := { dst := some 45, op := Op.move (Operand.tmp 44), type := 4, pos := "dtdlex.go:282", after := #[{ on := 8, ground := Ground.data }, { on := 6, ground := Ground.chain }], guard := none }) (v := ?vvdb10) rfl (by kernel_rfl) (by kernel_rfl) (by kernel_rfl) (fun _ _ _ h => h) (Or.inl ⟨by rfl, ?hydb10⟩) (by assumption) ?restdb10
            case hydb10 => (intro wS hSw; (try dsimp only at hSw); (repeat (obtain ⟨_, hSw⟩ := hSw)); go_simp; try (with_reducible rfl))
            try simp only [Act.put, List.setIfInBounds_toArray, List.set_cons_zero, List.set_cons_succ]
            refine wpAnyH_take (i := 10) (oi := { dst := some 46, op := Op.move (Operand.tmp 7), type := 50, pos := "dtdlex.go:282", after := #[{ on := 9, ground := Ground.guard }], guard := some (9, false) }) (v := undef) rfl (by kernel_rfl) (by kernel_rfl) (by kernel_rfl) (fun _ _ _ h => h) (Or.inr ⟨by rfl, rfl⟩) (by assumption) ?restdb11
            try simp only [Act.put, List.setIfInBounds_toArray, List.set_cons_zero, List.set_cons_succ]
            refine wpAnyH_take (i := 11) (oi := { dst := some 47, op := Op.nilCheck (Operand.tmp 46), type := 0, pos := "dtdlex.go:282", after := #[{ on := 10, ground := Ground.data }, { on := 9, ground := Ground.guard }], guard := some (9, false) }) (v := undef) rfl (by kernel_rfl) (by kernel_rfl) (by kernel_rfl) (fun _ _ _ h => h) (Or.inr ⟨by rfl, rfl⟩) (by assumption) ?restdb12
            try simp only [Act.put, List.setIfInBounds_toArray, List.set_cons_zero, List.set_cons_succ]
            refine wpAnyH_take (i := 12) (oi := { dst := some 48, op := Op.fieldAddr 52 (Operand.tmp 47) 2, type := 0, pos := "dtdlex.go:282", after := #[{ on := 11, ground := Ground.data }, { on := 9, ground := Ground.guard }], guard := some (9, false) }) (v := undef) rfl (by kernel_rfl) (by kernel_rfl) (by kernel_rfl) (fun _ _ _ h => h) (Or.inr ⟨by rfl, rfl⟩) (by assumption) ?restdb13
            try simp only [Act.put, List.setIfInBounds_toArray, List.set_cons_zero, List.set_cons_succ]
            refine wpAnyH_take (i := 13) (oi := { dst := some 49, op := Op.load 3 (Operand.tmp 48), type := 3, pos := "dtdlex.go:282", after := #[{ on := 12, ground := Ground.data }, { on := 9, ground := Ground.guard }], guard := some (9, false) }) (v := undef) rfl (by kernel_rfl) (by kernel_rfl) (by kernel_rfl) (fun _ _ _ h => h) (Or.inr ⟨by rfl, rfl⟩) (by assumption) ?restdb14
            try simp only [Act.put, List.setIfInBounds_toArray, List.set_cons_zero, List.set_cons_succ]
            refine wpAnyH_take (i := 14) (oi := { dst := some 50, op := Op.move (Operand.tmp 7), type := 50, pos := "dtdlex.go:282", after := #[{ on := 9, ground := Ground.guard }], guard := some (9, false) }) (v := undef) rfl (by kernel_rfl) (by kernel_rfl) (by kernel_rfl) (fun _ _ _ h => h) (Or.inr ⟨by rfl, rfl⟩) (by assumption) ?restdb15
            try simp only [Act.put, List.setIfInBounds_toArray, List.set_cons_zero, List.set_cons_succ]
            refine wpAnyH_take (i := 15) (oi := { dst := some 51, op := Op.nilCheck (Operand.tmp 50), type := 0, pos := "dtdlex.go:282", after := #[{ on := 14, ground := Ground.data }, { on := 9, ground := Ground.guard }], guard := some (9, false) }) (v := undef) rfl (by kernel_rfl) (by kernel_rfl) (by kernel_rfl) (fun _ _ _ h => h) (Or.inr ⟨by rfl, rfl⟩) (by assumption) ?restdb16
            try simp only [Act.put, List.setIfInBounds_toArray, List.set_cons_zero, List.set_cons_succ]
            refine wpAnyH_take (i := 16) (oi := { dst := some 52, op := Op.fieldAddr 52 (Operand.tmp 51) 1, type := 0, pos := "dtdlex.go:282", after := #[{ on := 15, ground := Ground.data }, { on := 9, ground := Ground.guard }], guard := some (9, false) }) (v := undef) rfl (by kernel_rfl) (by kernel_rfl) (by kernel_rfl) (fun _ _ _ h => h) (Or.inr ⟨by rfl, rfl⟩) (by assumption) ?restdb17
            try simp only [Act.put, List.setIfInBounds_toArray, List.set_cons_zero, List.set_cons_succ]
            refine wpAnyH_take (i := 17) (oi := { dst := some 53, op := Op.load 25 (Operand.tmp 52), type := 25, pos := "dtdlex.go:282", after := #[{ on := 16, ground := Ground.data }, { on := 9, ground := Ground.guard }], guard := some (9, false) }) (v := undef) rfl (by kernel_rfl) (by kernel_rfl) (by kernel_rfl) (fun _ _ _ h => h) (Or.inr ⟨by rfl, rfl⟩) (by assumption) ?restdb18
            try simp only [Act.put, List.setIfInBounds_toArray, List.set_cons_zero, List.set_cons_succ]
            refine wpAnyH_take (i := 18) (oi := { dst := some 54, op := Op.call { callee := Callee.builtin Builtin.len, args := #[Operand.tmp 53], argTypes := #[25] }, type := 3, pos := "dtdlex.go:282", after := #[{ on := 17, ground := Ground.data }, { on := 9, ground := Ground.guard }], guard := some (9, false) }) (v := undef) rfl (by kernel_rfl) (by kernel_rfl) (by kernel_rfl) (fun _ _ _ h => h) (Or.inr ⟨by rfl, rfl⟩) (by assumption) ?restdb19
            try simp only [Act.put, List.setIfInBounds_toArray, List.set_cons_zero, List.set_cons_succ]
            refine wpAnyH_take (i := 19) (oi := { dst := some 55, op := Op.binOp BinOp.lss 3 (Operand.tmp 49) (Operand.tmp 54) 3, type := 4, pos := "dtdlex.go:282", after := #[{ on := 13, ground := Ground.data }, { on := 18, ground := Ground.data }, { on := 9, ground := Ground.guard }], guard := some (9, false) }) (v := undef) rfl (by kernel_rfl) (by kernel_rfl) (by kernel_rfl) (fun _ _ _ h => h) (Or.inr ⟨by rfl, rfl⟩) (by assumption) ?restdb20
            try simp only [Act.put, List.setIfInBounds_toArray, List.set_cons_zero, List.set_cons_succ]
            refine wpAnyH_take (i := 20) (oi := { dst := some 56, op := Op.pick (Operand.tmp 45) (Operand.const (Value.bool true)) (Operand.tmp 55), type := 4, pos := "dtdlex.go:282", after := #[{ on := 9, ground := Ground.data }, { on := 19, ground := Ground.data }], guard := none }) (v := ?vvdb21) rfl (by kernel_rfl) (by kernel_rfl) (by kernel_rfl) (fun _ _ _ h => h) (Or.inl ⟨by rfl, ?hydb21⟩) (by assumption) ?restdb21
            case hydb21 => (intro wS hSw; (try dsimp only at hSw); (repeat (obtain ⟨_, hSw⟩ := hSw)); go_simp; try (with_reducible rfl))
            try simp only [Act.put, List.setIfInBounds_toArray, List.set_cons_zero, List.set_cons_succ]
            refine wpAnyH_done (by kernel_rfl) ?_ _
            have HVV := Lib.hid (show V = Hd.none_ by rw [HRD.out, t7]; simp)
            obtain ⟨bZ, kZ⟩ := END.out w9 R9.k HVV.out
            have bcx := bZ.cell
            have bf := bZ.frozen
            have bl := bZ.lt
            have z0 : w9.cell? ⟨g6, 0, none⟩ = some (.int .i64 0) := bcx 0
            have z1 : w9.cell? ⟨g6, 1, none⟩ = some (.int .i64 0) := bcx 1
            have z2 : w9.cell? ⟨g6, 2, none⟩ = some (.int .i64 0) := bcx 2
            have z3 : w9.cell? ⟨g6, 3, none⟩ = some (.int .i64 0) := bcx 3
            have z4 : w9.cell? ⟨g6, 4, none⟩ = some (.int .i64 0) := bcx 4
            have z5 : w9.cell? ⟨g6, 5, none⟩ = some (.int .i64 0) := bcx 5
            have z6 : w9.cell? ⟨g6, 6, none⟩ = some (.int .i64 0) := bcx 6
            have z7 : w9.cell? ⟨g6, 7, none⟩ = some (.int .i64 0) := bcx 7
            have z8 : w9.cell? ⟨g6, 8, none⟩ = some (.int .i64 0) := bcx 8
            have z9 : w9.cell? ⟨g6, 9, none⟩ = some (.int .i64 0) := bcx 9
            have z10 : w9.cell? ⟨g6, 10, none⟩ = some (.int .i64 0) := bcx 10
            have z11 : w9.cell? ⟨g6, 11, none⟩ = some (.int .i64 0) := bcx 11
            have z12 : w9.cell? ⟨g6, 12, none⟩ = some (.bool false) := bcx 12
            clear bcx
            go_wp2_with fail
            have bN := blk_setH bZ (.int .i64 0) (.int .i64 0) (.int .i64 0) (.int .i64 0) (.int .i64 0) (.int .i64 0) (.int .i64 0) (.int .i64 0) (.int .i64 0) (.int .i64 0) (.int .i64 0) (.int .i64 0) (.bool false)
            have kN := kept_setH kZ hg6 (.int .i64 0) (.int .i64 0) (.int .i64 0) (.int .i64 0) (.int .i64 0) (.int .i64 0) (.int .i64 0) (.int .i64 0) (.int .i64 0) (.int .i64 0) (.int .i64 0) (.int .i64 0) (.bool false)
            change bodyPost _ _ _ _ _ (setH w9 g6 (.int .i64 0) (.int .i64 0) (.int .i64 0) (.int .i64 0) (.int .i64 0) (.int .i64 0) (.int .i64 0) (.int .i64 0) (.int .i64 0) (.int .i64 0) (.int .i64 0) (.int .i64 0) (.bool false))
            generalize setH w9 g6 (.int .i64 0) (.int .i64 0) (.int .i64 0) (.int .i64 0) (.int .i64 0) (.int .i64 0) (.int .i64 0) (.int .i64 0) (.int .i64 0) (.int .i64 0) (.int .i64 0) (.int .i64 0) (.bool false) = wN at bN kN ⊢
            have cN := bN.cell
            have d0 := cN 0
            have d1 := cN 1
            have d2 := cN 2
            have d3 := cN 3
            have d4 := cN 4
            have d5 := cN 5
            have d6 := cN 6
            have d7 := cN 7
            have d8 := cN 8
            have d9 := cN 9
            have d10 := cN 10
            have d11 := cN 11
            have d12 := cN 12
            exact bodyPost_ret (v := .agg #[.int .i64 0, .int .i64 0, .int .i64 0, .int .i64 0, .int .i64 0, .int .i64 0, .int .i64 0, .int .i64 0, .int .i64 0, .int .i64 0, .int .i64 0, .int .i64 0, .bool false]) (by simp [results, Try.results16, go_sem, d0, d1, d2, d3, d4, d5, d6, d7, d8, d9, d10, d11, d12]) rfl ⟨by rw [HVV.out]; rfl, kN⟩
          exact AllReadyH.nil
        exact AllReadyH.nil
      exact AllReadyH.nil
    by_cases hlt : ia + 1 < pn
    · have l1 : ((ia + 1 : Nat) : Int) < pn := by omega
      have l2 : (ia : Int) + 1 < pn := by omega
      go_upto_region 8 with fail
      refine wp_region_held_drew (S := fun _ => True) (by kernel_rfl) trivial (fun hHeld => ?_)
      skip
      refine wpAnyH_take (i := 0) (oi := { dst := some 36, op := Op.move (Operand.tmp 7), type := 50, pos := "dtdlex.go:282", after := #[], guard := none }) (v := ?vvdc1) rfl (by kernel_rfl) (by kernel_rfl) (by kernel_rfl) (fun _ _ _ h => h) (Or.inl ⟨by rfl, ?hydc1⟩) (by assumption) ?restdc1
      case hydc1 => (intro wS hSw; (try dsimp only at hSw); (repeat (obtain ⟨_, hSw⟩ := hSw)); go_simp; try (with_reducible rfl))
      try simp only [Act.put, List.setIfInBounds_toArray, List.set_cons_zero, List.set_cons_succ]
      refine wpAnyH_ready (rs := [1]) (by kernel_rfl) (by simp) ?_
      refine AllReadyH.cons (o := { dst := some 37, op := Op.call { callee := Callee.value (Operand.func 33), args := #[Operand.tmp 36, Operand.tmp 8], argTypes := #[50, 55] }, type := 4, pos := "dtdlex.go:282", after := #[{ on := 0, ground := Ground.data }], guard := none }) rfl (fun K hK => ?stepdc2) ?moredc2
      case stepdc2 =>
        go_simp
        go_at_call 33
        refine HI.out.mono ?_
        rintro e w8 ⟨rfl, hia, R8⟩
        dsimp only at hia R8
        go_wp2_with fail
        refine hK.out _ _ (by trivial) (fun hHeld => ?_)
        clear hK K
        try simp only [Act.put, List.setIfInBounds_toArray, List.set_cons_zero, List.set_cons_succ]
        refine wpAnyH_take (i := 2) (oi := { dst := some 38, op := Op.unOp UnOp.not 4 (Operand.tmp 37), type := 4, pos := "dtdlex.go:282", after := #[{ on := 1, ground := Ground.data }], guard := none }) (v := ?vvdc3) rfl (by kernel_rfl) (by kernel_rfl) (by kernel_rfl) (fun _ _ _ h => h) (Or.inl ⟨by rfl, ?hydc3⟩) (by assumption) ?restdc3
        case hydc3 => (intro wS hSw; (try dsimp only at hSw); (repeat (obtain ⟨_, hSw⟩ := hSw)); go_simp; try (with_reducible rfl))
        try simp only [Act.put, List.setIfInBounds_toArray, List.set_cons_zero, List.set_cons_succ]
        refine wpAnyH_take (i := 3) (oi := { dst := some 39, op := Op.move (Operand.tmp 38), type := 4, pos := "dtdlex.go:282", after := #[{ on := 2, ground := Ground.data }, { on := 1, ground := Ground.chain }], guard := none }) (v := ?vvdc4) rfl (by kernel_rfl) (by kernel_rfl) (by kernel_rfl) (fun _ _ _ h => h) (Or.inl ⟨by rfl, ?hydc4⟩) (by assumption) ?restdc4
        case hydc4 => (intro wS hSw; (try dsimp only at hSw); (repeat (obtain ⟨_, hSw⟩ := hSw)); go_simp; try (with_reducible rfl))
        try simp only [Act.put, List.setIfInBounds_toArray, List.set_cons_zero, List.set_cons_succ]
        refine wpAnyH_take (i := 4) (oi := { dst := some 40, op := Op.move (Operand.tmp 7), type := 50, pos := "dtdlex.go:282", after := #[{ on := 3, ground := Ground.guard }], guard := some (3, false) }) (v := ?vvdc5) rfl (by kernel_rfl) (by kernel_rfl) (by kernel_rfl) (fun _ _ _ h => h) (Or.inl ⟨by rfl, ?hydc5⟩) (by assumption) ?restdc5
        case hydc5 => (intro wS hSw; (try dsimp only at hSw); (repeat (obtain ⟨_, hSw⟩ := hSw)); go_simp; try (with_reducible rfl))
        try simp only [Act.put, List.setIfInBounds_toArray, List.set_cons_zero, List.set_cons_succ]
        refine wpAnyH_ready (rs := [5]) (by kernel_rfl) (by simp) ?_
        refine AllReadyH.cons (o := { dst := some 41, op := Op.buildSlice 64 1 #[(0, Operand.const (Value.int IntKind.i64 7))], type := 64, pos := "dtdlex.go:282", after := #[{ on := 3, ground := Ground.guard }], guard := some (3, false) }) rfl (fun K hK => ?stepdc6) ?moredc6
        case stepdc6 =>
          go_simp
          refine hK.out _ _ (by trivial) (fun hHeld => ?_)
          clear hK K
          try simp only [Act.put, List.setIfInBounds_toArray, List.set_cons_zero, List.set_cons_succ]
          refine wpAnyH_ready (rs := [6]) (by kernel_rfl) (by simp) ?_
          refine AllReadyH.cons (o := { dst := some 42, op := Op.call { callee := Callee.value (Operand.func 31), args := #[Operand.tmp 40, Operand.tmp 41], argTypes := #[50, 64] }, type := 25, pos := "dtdlex.go:282", after := #[{ on := 4, ground := Ground.data }, { on := 5, ground := Ground.data }, { on := 3, ground := Ground.chain }, { on := 3, ground := Ground.guard }], guard := some (3, false) }) rfl (fun K hK => ?stepdc7) ?moredc7
          case stepdc7 =>
            go_simp
            go_at_call 31
            refine (HT.out w8 ia _ R8 hia 7).mono ?_
            intro e w9 h9
            rw [t7] at h9
            obtain ⟨b9, o9, c9, hc9, rfl, _, R9⟩ := h9
            have x1 : w9.cell? ⟨gr, 1, none⟩ = some (.slice PA pn pc) := R9.b.cell 1
            have x2 : w9.cell? ⟨gr, 2, none⟩ = some (.int .i64 ((ia + 1 : Nat) : Int)) := R9.b.cell 2
            go_wp2_with fail
            refine hK.out _ _ (by trivial) (fun hHeld => ?_)
            clear hK K
            try simp only [Act.put, List.setIfInBounds_toArray, List.set_cons_zero, List.set_cons_succ]
            refine wpAnyH_take (i := 7) (oi := { dst := some 43, op := Op.binOp BinOp.eql 25 (Operand.tmp 42) (Operand.const (Value.slice none 0 0)) 25, type := 4, pos := "dtdlex.go:282", after := #[{ on := 6, ground := Ground.data }, { on := 3, ground := Ground.guard }], guard := some (3, false) }) (v := ?vvdc8) rfl (by kernel_rfl) (by kernel_rfl) (by kernel_rfl) (fun _ _ _ h => h) (Or.inl ⟨by rfl, ?hydc8⟩) (by assumption) ?restdc8
            case hydc8 => (intro wS hSw; (try dsimp only at hSw); (repeat (obtain ⟨_, hSw⟩ := hSw)); go_simp; try (with_reducible rfl))
            try simp only [Act.put, List.setIfInBounds_toArray, List.set_cons_zero, List.set_cons_succ]
            refine wpAnyH_take (i := 8) (oi := { dst := some 44, op := Op.pick (Operand.tmp 39) (Operand.const (Value.bool true)) (Operand.tmp 43), type := 4, pos := "dtdlex.go:282", after := #[{ on := 3, ground := Ground.data }, { on := 7, ground := Ground.data }], guard := none }) (v := ?vvdc9) rfl (by kernel_rfl) (by kernel_rfl) (by kernel_rfl) (fun _ _ _ h => h) (Or.inl ⟨by rfl, ?hydc9⟩) (by assumption) ?restdc9
            case hydc9 => (intro wS hSw; (try dsimp only at hSw); (repeat (obtain ⟨_, hSw⟩ := hSw)); go_simp; try (with_reducible rfl))
            try simp only [Act.put, List.setIfInBounds_toArray, List.set_cons_zero, List.set_cons_succ]
            refine wpAnyH_take (i := 9) (oi := { dst := some 45, op := Op.move (Operand.tmp 44), type := 4, pos := "dtdlex.go:282", after := #[{ on := 8, ground := Ground.data }, { on := 6, ground := Ground.chain }], guard := none }) (v := ?vvdc10) rfl (by kernel_rfl) (by kernel_rfl) (by kernel_rfl) (fun _ _ _ h => h) (Or.inl ⟨by rfl, ?hydc10⟩) (by assumption) ?restdc10
            case hydc10 => (intro wS hSw; (try dsimp only at hSw); (repeat (obtain ⟨_, hSw⟩ := hSw)); go_simp; try (with_reducible rfl))
            try simp only [Act.put, List.setIfInBounds_toArray, List.set_cons_zero, List.set_cons_succ]
            refine wpAnyH_take (i := 10) (oi := { dst := some 46, op := Op.move (Operand.tmp 7), type := 50, pos := "dtdlex.go:282", after := #[{ on := 9, ground := Ground.guard }], guard := some (9, false) }) (v := ?vvdc11) rfl (by kernel_rfl) (by kernel_rfl) (by kernel_rfl) (fun _ _ _ h => h) (Or.inl ⟨by rfl, ?hydc11⟩) (by assumption) ?restdc11
            case hydc11 => (intro wS hSw; (try dsimp only at hSw); (repeat (obtain ⟨_, hSw⟩ := hSw)); go_simp; try (with_reducible rfl))
            try simp only [Act.put, List.setIfInBounds_toArray, List.set_cons_zero, List.set_cons_succ]
            refine wpAnyH_take (i := 11) (oi := { dst := some 47, op := Op.nilCheck (Operand.tmp 46), type := 0, pos := "dtdlex.go:282", after := #[{ on := 10, ground := Ground.data }, { on := 9, ground := Ground.guard }], guard := some (9, false) }) (v := ?vvdc12) rfl (by kernel_rfl) (by kernel_rfl) (by kernel_rfl) (fun _ _ _ h => h) (Or.inl ⟨by rfl, ?hydc12⟩) (by assumption) ?restdc12
            case hydc12 => (intro wS hSw; (try dsimp only at hSw); (repeat (obtain ⟨_, hSw⟩ := hSw)); go_simp; try (with_reducible rfl))
            try simp only [Act.put, List.setIfInBounds_toArray, List.set_cons_zero, List.set_cons_succ]
            refine wpAnyH_take (i := 12) (oi := { dst := some 48, op := Op.fieldAddr 52 (Operand.tmp 47) 2, type := 0, pos := "dtdlex.go:282", after := #[{ on := 11, ground := Ground.data }, { on := 9, ground := Ground.guard }], guard := some (9, false) }) (v := ?vvdc13) rfl (by kernel_rfl) (by kernel_rfl) (by kernel_rfl) (fun _ _ _ h => h) (Or.inl ⟨by rfl, ?hydc13⟩) (by assumption) ?restdc13
            case hydc13 => (intro wS hSw; (try dsimp only at hSw); (repeat (obtain ⟨_, hSw⟩ := hSw)); go_simp; try (with_reducible rfl))
            try simp only [Act.put, List.setIfInBounds_toArray, List.set_cons_zero, List.set_cons_succ]
            refine wpAnyH_take (i := 14) (oi := { dst := some 50, op := Op.move (Operand.tmp 7), type := 50, pos := "dtdlex.go:282", after := #[{ on := 9, ground := Ground.guard }], guard := some (9, false) }) (v := ?vvdc14) rfl (by kernel_rfl) (by kernel_rfl) (by kernel_rfl) (fun _ _ _ h => h) (Or.inl ⟨by rfl, ?hydc14⟩) (by assumption) ?restdc14
            case hydc14 => (intro wS hSw; (try dsimp only at hSw); (repeat (obtain ⟨_, hSw⟩ := hSw)); go_simp; try (with_reducible rfl))
            try simp only [Act.put, List.setIfInBounds_toArray, List.set_cons_zero, List.set_cons_succ]
            refine wpAnyH_take (i := 15) (oi := { dst := some 51, op := Op.nilCheck (Operand.tmp 50), type := 0, pos := "dtdlex.go:282", after := #[{ on := 14, ground := Ground.data }, { on := 9, ground := Ground.guard }], guard := some (9, false) }) (v := ?vvdc15) rfl (by kernel_rfl) (by kernel_rfl) (by kernel_rfl) (fun _ _ _ h => h) (Or.inl ⟨by rfl, ?hydc15⟩) (by assumption) ?restdc15
            case hydc15 => (intro wS hSw; (try dsimp only at hSw); (repeat (obtain ⟨_, hSw⟩ := hSw)); go_simp; try (with_reducible rfl))
            try simp only [Act.put, List.setIfInBounds_toArray, List.set_cons_zero, List.set_cons_succ]
            refine wpAnyH_take (i := 16) (oi := { dst := some 52, op := Op.fieldAddr 52 (Operand.tmp 51) 1, type := 0, pos := "dtdlex.go:282", after := #[{ on := 15, ground := Ground.data }, { on := 9, ground := Ground.guard }], guard := some (9, false) }) (v := ?vvdc16) rfl (by kernel_rfl) (by kernel_rfl) (by kernel_rfl) (fun _ _ _ h => h) (Or.inl ⟨by rfl, ?hydc16⟩) (by assumption) ?restdc16
            case hydc16 => (intro wS hSw; (try dsimp only at hSw); (repeat (obtain ⟨_, hSw⟩ := hSw)); go_simp; try (with_reducible rfl))
            try simp only [Act.put, List.setIfInBounds_toArray, List.set_cons_zero, List.set_cons_succ]
            refine wpAnyH_ready (rs := [13, 17]) (by kernel_rfl) (by simp) ?_
            refine AllReadyH.cons (o := { dst := some 49, op := Op.load 3 (Operand.tmp 48), type := 3, pos := "dtdlex.go:282", after := #[{ on := 12, ground := Ground.data }, { on := 9, ground := Ground.guard }], guard := some (9, false) }) rfl (fun K hK => ?stepdc17) ?moredc17
            case stepdc17 =>
              go_simp
              refine hK.out _ _ (by trivial) (fun hHeld => ?_)
              clear hK K
              try simp only [Act.put, List.setIfInBounds_toArray, List.set_cons_zero, List.set_cons_succ]
              refine wpAnyH_ready (rs := [17]) (by kernel_rfl) (by simp) ?_
              refine AllReadyH.cons (o := { dst := some 53, op := Op.load 25 (Operand.tmp 52), type := 25, pos := "dtdlex.go:282", after := #[{ on := 16, ground := Ground.data }, { on := 9, ground := Ground.guard }], guard := some (9, false) }) rfl (fun K hK => ?stepdc18) ?moredc18
              case stepdc18 =>
                go_simp
                refine hK.out _ _ (by trivial) (fun hHeld => ?_)
                clear hK K
                try simp only [Act.put, List.setIfInBounds_toArray, List.set_cons_zero, List.set_cons_succ]
                refine wpAnyH_take (i := 18) (oi := { dst := some 54, op := Op.call { callee := Callee.builtin Builtin.len, args := #[Operand.tmp 53], argTypes := #[25] }, type := 3, pos := "dtdlex.go:282", after := #[{ on := 17, ground := Ground.data }, { on := 9, ground := Ground.guard }], guard := some (9, false) }) (v := ?vvdc19) rfl (by kernel_rfl) (by kernel_rfl) (by kernel_rfl) (fun _ _ _ h => h) (Or.inl ⟨by rfl, ?hydc19⟩) (by assumption) ?restdc19
                case hydc19 => (intro wS hSw; (try dsimp only at hSw); (repeat (obtain ⟨_, hSw⟩ := hSw)); go_simp; try (with_reducible rfl))
                try simp only [Act.put, List.setIfInBounds_toArray, List.set_cons_zero, List.set_cons_succ]
                refine wpAnyH_take (i := 19) (oi := { dst := some 55, op := Op.binOp BinOp.lss 3 (Operand.tmp 49) (Operand.tmp 54) 3, type := 4, pos := "dtdlex.go:282", after := #[{ on := 13, ground := Ground.data }, { on := 18, ground := Ground.data }, { on := 9, ground := Ground.guard }], guard := some (9, false) }) (v := ?vvdc20) rfl (by kernel_rfl) (by kernel_rfl) (by kernel_rfl) (fun _ _ _ h => h) (Or.inl ⟨by rfl, ?hydc20⟩) (by assumption) ?restdc20
                case hydc20 => (intro wS hSw; (try dsimp only at hSw); (repeat (obtain ⟨_, hSw⟩ := hSw)); go_simp; try (with_reducible rfl))
                try simp only [Act.put, List.setIfInBounds_toArray, List.set_cons_zero, List.set_cons_succ]
                refine wpAnyH_take (i := 20) (oi := { dst := some 56, op := Op.pick (Operand.tmp 45) (Operand.const (Value.bool true)) (Operand.tmp 55), type := 4, pos := "dtdlex.go:282", after := #[{ on := 9, ground := Ground.data }, { on := 19, ground := Ground.data }], guard := none }) (v := ?vvdc21) rfl (by kernel_rfl) (by kernel_rfl) (by kernel_rfl) (fun _ _ _ h => h) (Or.inl ⟨by rfl, ?hydc21⟩) (by assumption) ?restdc21
                case hydc21 => (intro wS hSw; (try dsimp only at hSw); (repeat (obtain ⟨_, hSw⟩ := hSw)); go_simp; try (with_reducible rfl))
                try simp only [Act.put, List.setIfInBounds_toArray, List.set_cons_zero, List.set_cons_succ]
                refine wpAnyH_done (by kernel_rfl) ?_ _
                have HVV := Lib.hid (show V = Hd.none_ by rw [HRD.out, if_neg (fun h => by have := h.2.2; have := HPN.out; omega)])
                obtain ⟨bZ, kZ⟩ := END.out w9 R9.k HVV.out
                have bcx := bZ.cell
                have bf := bZ.frozen
                have bl := bZ.lt
                have z0 : w9.cell? ⟨g6, 0, none⟩ = some (.int .i64 0) := bcx 0
                have z1 : w9.cell? ⟨g6, 1, none⟩ = some (.int .i64 0) := bcx 1
                have z2 : w9.cell? ⟨g6, 2, none⟩ = some (.int .i64 0) := bcx 2
                have z3 : w9.cell? ⟨g6, 3, none⟩ = some (.int .i64 0) := bcx 3
                have z4 : w9.cell? ⟨g6, 4, none⟩ = some (.int .i64 0) := bcx 4
                have z5 : w9.cell? ⟨g6, 5, none⟩ = some (.int .i64 0) := bcx 5
                have z6 : w9.cell? ⟨g6, 6, none⟩ = some (.int .i64 0) := bcx 6
                have z7 : w9.cell? ⟨g6, 7, none⟩ = some (.int .i64 0) := bcx 7
                have z8 : w9.cell? ⟨g6, 8, none⟩ = some (.int .i64 0) := bcx 8
                have z9 : w9.cell? ⟨g6, 9, none⟩ = some (.int .i64 0) := bcx 9
                have z10 : w9.cell? ⟨g6, 10, none⟩ = some (.int .i64 0) := bcx 10
                have z11 : w9.cell? ⟨g6, 11, none⟩ = some (.int .i64 0) := bcx 11
                have z12 : w9.cell? ⟨g6, 12, none⟩ = some (.bool false) := bcx 12
                clear bcx
                go_wp2_with fail
                have bN := blk_setH bZ (.int .i64 0) (.int .i64 0) (.int .i64 0) (.int .i64 0) (.int .i64 0) (.int .i64 0) (.int .i64 0) (.int .i64 0) (.int .i64 0) (.int .i64 0) (.int .i64 0) (.int .i64 0) (.bool false)
                have kN := kept_setH kZ hg6 (.int .i64 0) (.int .i64 0) (.int .i64 0) (.int .i64 0) (.int .i64 0) (.int .i64 0) (.int .i64 0) (.int .i64 0) (.int .i64 0) (.int .i64 0) (.int .i64 0) (.int .i64 0) (.bool false)
                change bodyPost _ _ _ _ _ (setH w9 g6 (.int .i64 0) (.int .i64 0) (.int .i64 0) (.int .i64 0) (.int .i64 0) (.int .i64 0) (.int .i64 0) (.int .i64 0) (.int .i64 0) (.int .i64 0) (.int .i64 0) (.int .i64 0) (.bool false))
                generalize setH w9 g6 (.int .i64 0) (.int .i64 0) (.int .i64 0) (.int .i64 0) (.int .i64 0) (.int .i64 0) (.int .i64 0) (.int .i64 0) (.int .i64 0) (.int .i64 0) (.int .i64 0) (.int .i64 0) (.bool false) = wN at bN kN ⊢
                have cN := bN.cell
                have d0 := cN 0
                have d1 := cN 1
                have d2 := cN 2
                have d3 := cN 3
                have d4 := cN 4
                have d5 := cN 5
                have d6 := cN 6
                have d7 := cN 7
                have d8 := cN 8
                have d9 := cN 9
                have d10 := cN 10
                have d11 := cN 11
                have d12 := cN 12
                exact bodyPost_ret (v := .agg #[.int .i64 0, .int .i64 0, .int .i64 0, .int .i64 0, .int .i64 0, .int .i64 0, .int .i64 0, .int .i64 0, .int .i64 0, .int .i64 0, .int .i64 0, .int .i64 0, .bool false]) (by simp [results, Try.results16, go_sem, d0, d1, d2, d3, d4, d5, d6, d7, d8, d9, d10, d11, d12]) rfl ⟨by rw [HVV.out]; rfl, kN⟩
              exact AllReadyH.nil
            refine AllReadyH.cons (o := { dst := some 53, op := Op.load 25 (Operand.tmp 52), type := 25, pos := "dtdlex.go:282", after := #[{ on := 16, ground := Ground.data }, { on := 9, ground := Ground.guard }], guard := some (9, false) }) rfl (fun K hK => ?stepdc22) ?moredc22
            case stepdc22 =>
              go_simp
              refine hK.out _ _ (by trivial) (fun hHeld => ?_)
              clear hK K
              try simp only [Act.put, List.setIfInBounds_toArray, List.set_cons_zero, List.set_cons_succ]
              refine wpAnyH_take (i := 18) (oi := { dst := some 54, op := Op.call { callee := Callee.builtin Builtin.len, args := #[Operand.tmp 53], argTypes := #[25] }, type := 3, pos := "dtdlex.go:282", after := #[{ on := 17, ground := Ground.data }, { on := 9, ground := Ground.guard }], guard := some (9, false) }) (v := ?vvdc23) rfl (by kernel_rfl) (by kernel_rfl) (by kernel_rfl) (fun _ _ _ h => h) (Or.inl ⟨by rfl, ?hydc23⟩) (by assumption) ?restdc23
              case hydc23 => (intro wS hSw; (try dsimp only at hSw); (repeat (obtain ⟨_, hSw⟩ := hSw)); go_simp; try (with_reducible rfl))
              try simp only [Act.put, List.setIfInBounds_toArray, List.set_cons_zero, List.set_cons_succ]
              refine wpAnyH_ready (rs := [13]) (by kernel_rfl) (by simp) ?_
              refine AllReadyH.cons (o := { dst := some 49, op := Op.load 3 (Operand.tmp 48), type := 3, pos := "dtdlex.go:282", after := #[{ on := 12, ground := Ground.data }, { on := 9, ground := Ground.guard }], guard := some (9, false) }) rfl (fun K hK => ?stepdc24) ?moredc24
              case stepdc24 =>
                go_simp
                refine hK.out _ _ (by trivial) (fun hHeld => ?_)
                clear hK K
                try simp only [Act.put, List.setIfInBounds_toArray, List.set_cons_zero, List.set_cons_succ]
                refine wpAnyH_take (i := 19) (oi := { dst := some 55, op := Op.binOp BinOp.lss 3 (Operand.tmp 49) (Operand.tmp 54) 3, type := 4, pos := "dtdlex.go:282", after := #[{ on := 13, ground := Ground.data }, { on := 18, ground := Ground.data }, { on := 9, ground := Ground.guard }], guard := some (9, false) }) (v := ?vvdc25) rfl (by kernel_rfl) (by kernel_rfl) (by kernel_rfl) (fun _ _ _ h => h) (Or.inl ⟨by rfl, ?hydc25⟩) (by assumption) ?restdc25
                case hydc25 => (intro wS hSw; (try dsimp only at hSw); (repeat (obtain ⟨_, hSw⟩ := hSw)); go_simp; try (with_reducible rfl))
                try simp only [Act.put, List.setIfInBounds_toArray, List.set_cons_zero, List.set_cons_succ]
                refine wpAnyH_take (i := 20) (oi := { dst := some 56, op := Op.pick (Operand.tmp 45) (Operand.const (Value.bool true)) (Operand.tmp 55), type := 4, pos := "dtdlex.go:282", after := #[{ on := 9, ground := Ground.data }, { on := 19, ground := Ground.data }], guard := none }) (v := ?vvdc26) rfl (by kernel_rfl) (by kernel_rfl) (by kernel_rfl) (fun _ _ _ h => h) (Or.inl ⟨by rfl, ?hydc26⟩) (by assumption) ?restdc26
                case hydc26 => (intro wS hSw; (try dsimp only at hSw); (repeat (obtain ⟨_, hSw⟩ := hSw)); go_simp; try (with_reducible rfl))
                try simp only [Act.put, List.setIfInBounds_toArray, List.set_cons_zero, List.set_cons_succ]
                refine wpAnyH_done (by kernel_rfl) ?_ _
                have HVV := Lib.hid (show V = Hd.none_ by rw [HRD.out, if_neg (fun h => by have := h.2.2; have := HPN.out; omega)])
                obtain ⟨bZ, kZ⟩ := END.out w9 R9.k HVV.out
                have bcx := bZ.cell
                have bf := bZ.frozen
                have bl := bZ.lt
                have z0 : w9.cell? ⟨g6, 0, none⟩ = some (.int .i64 0) := bcx 0
                have z1 : w9.cell? ⟨g6, 1, none⟩ = some (.int .i64 0) := bcx 1
                have z2 : w9.cell? ⟨g6, 2, none⟩ = some (.int .i64 0) := bcx 2
                have z3 : w9.cell? ⟨g6, 3, none⟩ = some (.int .i64 0) := bcx 3
                have z4 : w9.cell? ⟨g6, 4, none⟩ = some (.int .i64 0) := bcx 4
                have z5 : w9.cell? ⟨g6, 5, none⟩ = some (.int .i64 0) := bcx 5
                have z6 : w9.cell? ⟨g6, 6, none⟩ = some (.int .i64 0) := bcx 6
                have z7 : w9.cell? ⟨g6, 7, none⟩ = some (.int .i64 0) := bcx 7
                have z8 : w9.cell? ⟨g6, 8, none⟩ = some (.int .i64 0) := bcx 8
                have z9 : w9.cell? ⟨g6, 9, none⟩ = some (.int .i64 0) := bcx 9
                have z10 : w9.cell? ⟨g6, 10, none⟩ = some (.int .i64 0) := bcx 10
                have z11 : w9.cell? ⟨g6, 11, none⟩ = some (.int .i64 0) := bcx 11
                have z12 : w9.cell? ⟨g6, 12, none⟩ = some (.bool false) := bcx 12
                clear bcx
                go_wp2_with fail
                have bN := blk_setH bZ (.int .i64 0) (.int .i64 0) (.int .i64 0) (.int .i64 0) (.int .i64 0) (.int .i64 0) (.int .i64 0) (.int .i64 0) (.int .i64 0) (.int .i64 0) (.int .i64 0) (.int .i64 0) (.bool false)
                have kN := kept_setH kZ hg6 (.int .i64 0) (.int .i64 0) (.int .i64 0) (.int .i64 0) (.int .i64 0) (.int .i64 0) (.int .i64 0) (.int .i64 0) (.int .i64 0) (.int .i64 0) (.int .i64 0) (.int .i64 0) (.bool false)
                change bodyPost _ _ _ _ _ (setH w9 g6 (.int .i64 0) (.int .i64 0) (.int .i64 0) (.int .i64 0) (.int .i64 0) (.int .i64 0) (.int .i64 0) (.int .i64 0) (.int .i64 0) (.int .i64 0) (.int .i64 0) (.int .i64 0) (.bool false))
                generalize setH w9 g6 (.int .i64 0) (.int .i64 0) (.int .i64 0) (.int .i64 0) (.int .i64 0) (.int .i64 0) (.int .i64 0) (.int .i64 0) (.int .i64 0) (.int .i64 0) (.int .i64 0) (.int .i64 0) (.bool false) = wN at bN kN ⊢
                have cN := bN.cell
                have d0 := cN 0
                have d1 := cN 1
                have d2 := cN 2
                have d3 := cN 3
                have d4 := cN 4
                have d5 := cN 5
                have d6 := cN 6
                have d7 := cN 7
                have d8 := cN 8
                have d9 := cN 9
                have d10 := cN 10
                have d11 := cN 11
                have d12 := cN 12
                exact bodyPost_ret (v := .agg #[.int .i64 0, .int .i64 0, .int .i64 0, .int .i64 0, .int .i64 0, .int .i64 0, .int .i64 0, .int .i64 0, .int .i64 0, .int .i64 0, .int .i64 0, .int .i64 0, .bool false]) (by simp [results, Try.results16, go_sem, d0, d1, d2, d3, d4, d5, d6, d7, d8, d9, d10, d11, d12]) rfl ⟨by rw [HVV.out]; rfl, kN⟩
              exact AllReadyH.nil
            exact AllReadyH.nil
          exact AllReadyH.nil
        exact AllReadyH.nil
      exact AllReadyH.nil
    · have l1 : ¬ ((ia + 1 : Nat) : Int) < pn := by omega
      have l2 : ¬ (ia : Int) + 1 < pn := by omega
      go_upto_region 8 with fail
      refine wp_region_held_drew (S := fun _ => True) (by kernel_rfl) trivial (fun hHeld => ?_)
      skip
      refine wpAnyH_take (i := 0) (oi := { dst := some 36, op := Op.move (Operand.tmp 7), type := 50, pos := "dtdlex.go:282", after := #[], guard := none }) (v := ?vvdd1) rfl (by kernel_rfl) (by kernel_rfl) (by kernel_rfl) (fun _ _ _ h => h) (Or.inl ⟨by rfl, ?hydd1⟩) (by assumption) ?restdd1
      case hydd1 => (intro wS hSw; (try dsimp only at hSw); (repeat (obtain ⟨_, hSw⟩ := hSw)); go_simp; try (with_reducible rfl))
      try simp only [Act.put, List.setIfInBounds_toArray, List.set_cons_zero, List.set_cons_succ]
      refine wpAnyH_ready (rs := [1]) (by kernel_rfl) (by simp) ?_
      refine AllReadyH.cons (o := { dst := some 37, op := Op.call { callee := Callee.value (Operand.func 33), args := #[Operand.tmp 36, Operand.tmp 8], argTypes := #[50, 55] }, type := 4, pos := "dtdlex.go:282", after := #[{ on := 0, ground := Ground.data }], guard := none }) rfl (fun K hK => ?stepdd2) ?moredd2
      case stepdd2 =>
        go_simp
        go_at_call 33
        refine HI.out.mono ?_
        rintro e w8 ⟨rfl, hia, R8⟩
        dsimp only at hia R8
        go_wp2_with fail
        refine hK.out _ _ (by trivial) (fun hHeld => ?_)
        clear hK K
        try simp only [Act.put, List.setIfInBounds_toArray, List.set_cons_zero, List.set_cons_succ]
        refine wpAnyH_take (i := 2) (oi := { dst := some 38, op := Op.unOp UnOp.not 4 (Operand.tmp 37), type := 4, pos := "dtdlex.go:282", after := #[{ on := 1, ground := Ground.data }], guard := none }) (v := ?vvdd3) rfl (by kernel_rfl) (by kernel_rfl) (by kernel_rfl) (fun _ _ _ h => h) (Or.inl ⟨by rfl, ?hydd3⟩) (by assumption) ?restdd3
        case hydd3 => (intro wS hSw; (try dsimp only at hSw); (repeat (obtain ⟨_, hSw⟩ := hSw)); go_simp; try (with_reducible rfl))
        try simp only [Act.put, List.setIfInBounds_toArray, List.set_cons_zero, List.set_cons_succ]
        refine wpAnyH_take (i := 3) (oi := { dst := some 39, op := Op.move (Operand.tmp 38), type := 4, pos := "dtdlex.go:282", after := #[{ on := 2, ground := Ground.data }, { on := 1, ground := Ground.chain }], guard := none }) (v := ?vvdd4) rfl (by kernel_rfl) (by kernel_rfl) (by kernel_rfl) (fun _ _ _ h => h) (Or.inl ⟨by rfl, ?hydd4⟩) (by assumption) ?restdd4
        case hydd4 => (intro wS hSw; (try dsimp only at hSw); (repeat (obtain ⟨_, hSw⟩ := hSw)); go_simp; try (with_reducible rfl))
        try simp only [Act.put, List.setIfInBounds_toArray, List.set_cons_zero, List.set_cons_succ]
        refine wpAnyH_take (i := 4) (oi := { dst := some 40, op := Op.move (Operand.tmp 7), type := 50, pos := "dtdlex.go:282", after := #[{ on := 3, ground := Ground.guard }], guard := some (3, false) }) (v := ?vvdd5) rfl (by kernel_rfl) (by kernel_rfl) (by kernel_rfl) (fun _ _ _ h => h) (Or.inl ⟨by rfl, ?hydd5⟩) (by assumption) ?restdd5
        case hydd5 => (intro wS hSw; (try dsimp only at hSw); (repeat (obtain ⟨_, hSw⟩ := hSw)); go_simp; try (with_reducible rfl))
        try simp only [Act.put, List.setIfInBounds_toArray, List.set_cons_zero, List.set_cons_succ]
        refine wpAnyH_ready (rs := [5]) (by kernel_rfl) (by simp) ?_
        refine AllReadyH.cons (o := { dst := some 41, op := Op.buildSlice 64 1 #[(0, Operand.const (Value.int IntKind.i64 7))], type := 64, pos := "dtdlex.go:282", after := #[{ on := 3, ground := Ground.guard }], guard := some (3, false) }) rfl (fun K hK => ?stepdd6) ?moredd6
        case stepdd6 =>
          go_simp
          refine hK.out _ _ (by trivial) (fun hHeld => ?_)
          clear hK K
          try simp only [Act.put, List.setIfInBounds_toArray, List.set_cons_zero, List.set_cons_succ]
          refine wpAnyH_ready (rs := [6]) (by kernel_rfl) (by simp) ?_
          refine AllReadyH.cons (o := { dst := some 42, op := Op.call { callee := Callee.value (Operand.func 31), args := #[Operand.tmp 40, Operand.tmp 41], argTypes := #[50, 64] }, type := 25, pos := "dtdlex.go:282", after := #[{ on := 4, ground := Ground.data }, { on := 5, ground := Ground.data }, { on := 3, ground := Ground.chain }, { on := 3, ground := Ground.guard }], guard := some (3, false) }) rfl (fun K hK => ?stepdd7) ?moredd7
          case stepdd7 =>
            go_simp
            go_at_call 31
            refine (HT.out w8 ia _ R8 hia 7).mono ?_
            intro e w9 h9
            rw [t7] at h9
            obtain ⟨b9, o9, c9, hc9, rfl, _, R9⟩ := h9
            have x1 : w9.cell? ⟨gr, 1, none⟩ = some (.slice PA pn pc) := R9.b.cell 1
            have x2 : w9.cell? ⟨gr, 2, none⟩ = some (.int .i64 ((ia + 1 : Nat) : Int)) := R9.b.cell 2
            go_wp2_with fail
            refine hK.out _ _ (by trivial) (fun hHeld => ?_)
            clear hK K
            try simp only [Act.put, List.setIfInBounds_toArray, List.set_cons_zero, List.set_cons_succ]
            refine wpAnyH_take (i := 7) (oi := { dst := some 43, op := Op.binOp BinOp.eql 25 (Operand.tmp 42) (Operand.const (Value.slice none 0 0)) 25, type := 4, pos := "dtdlex.go:282", after := #[{ on := 6, ground := Ground.data }, { on := 3, ground := Ground.guard }], guard := some (3, false) }) (v := ?vvdd8) rfl (by kernel_rfl) (by kernel_rfl) (by kernel_rfl) (fun _ _ _ h => h) (Or.inl ⟨by rfl, ?hydd8⟩) (by assumption) ?restdd8
            case hydd8 => (intro wS hSw; (try dsimp only at hSw); (repeat (obtain ⟨_, hSw⟩ := hSw)); go_simp; try (with_reducible rfl))
            try simp only [Act.put, List.setIfInBounds_toArray, List.set_cons_zero, List.set_cons_succ]
            refine wpAnyH_take (i := 8) (oi := { dst := some 44, op := Op.pick (Operand.tmp 39) (Operand.const (Value.bool true)) (Operand.tmp 43), type := 4, pos := "dtdlex.go:282", after := #[{ on := 3, ground := Ground.data }, { on := 7, ground := Ground.data }], guard := none }) (v := ?vvdd9) rfl (by kernel_rfl) (by kernel_rfl) (by kernel_rfl) (fun _ _ _ h => h) (Or.inl ⟨by rfl, ?hydd9⟩) (by assumption) ?restdd9
            case hydd9 => (intro wS hSw; (try dsimp only at hSw); (repeat (obtain ⟨_, hSw⟩ := hSw)); go_simp; try (with_reducible rfl))
            try simp only [Act.put, List.setIfInBounds_toArray, List.set_cons_zero, List.set_cons_succ]
            refine wpAnyH_take (i := 9) (oi := { dst := some 45, op := Op.move (Operand.tmp 44), type := 4, pos := "dtdlex.go:282", after := #[{ on := 8, ground := Ground.data }, { on := 6, ground := Ground.chain }], guard := none }) (v := ?vvdd10) rfl (by kernel_rfl) (by kernel_rfl) (by kernel_rfl) (fun _ _ _ h => h) (Or.inl ⟨by rfl, ?hydd10⟩) (by assumption) ?restdd10
            case hydd10 => (intro wS hSw; (try dsimp only at hSw); (repeat (obtain ⟨_, hSw⟩ := hSw)); go_simp; try (with_reducible rfl))
            try simp only [Act.put, List.setIfInBounds_toArray, List.set_cons_zero, List.set_cons_succ]
            refine wpAnyH_take (i := 10) (oi := { dst := some 46, op := Op.move (Operand.tmp 7), type := 50, pos := "dtdlex.go:282", after := #[{ on := 9, ground := Ground.guard }], guard := some (9, false) }) (v := ?vvdd11) rfl (by kernel_rfl) (by kernel_rfl) (by kernel_rfl) (fun _ _ _ h => h) (Or.inl ⟨by rfl, ?hydd11⟩) (by assumption) ?restdd11
            case hydd11 => (intro wS hSw; (try dsimp only at hSw); (repeat (obtain ⟨_, hSw⟩ := hSw)); go_simp; try (with_reducible rfl))
            try simp only [Act.put, List.setIfInBounds_toArray, List.set_cons_zero, List.set_cons_succ]
            refine wpAnyH_take (i := 11) (oi := { dst := some 47, op := Op.nilCheck (Operand.tmp 46), type := 0, pos := "dtdlex.go:282", after := #[{ on := 10, ground := Ground.data }, { on := 9, ground := Ground.guard }], guard := some (9, false) }) (v := ?vvdd12) rfl (by kernel_rfl) (by kernel_rfl) (by kernel_rfl) (fun _ _ _ h => h) (Or.inl ⟨by rfl, ?hydd12⟩) (by assumption) ?restdd12
            case hydd12 => (intro wS hSw; (try dsimp only at hSw); (repeat (obtain ⟨_, hSw⟩ := hSw)); go_simp; try (with_reducible rfl))
            try simp only [Act.put, List.setIfInBounds_toArray, List.set_cons_zero, List.set_cons_succ]
            refine wpAnyH_take (i := 12) (oi := { dst := some 48, op := Op.fieldAddr 52 (Operand.tmp 47) 2, type := 0, pos := "dtdlex.go:282", after := #[{ on := 11, ground := Ground.data }, { on := 9, ground := Ground.guard }], guard := some (9, false) }) (v := ?vvdd13) rfl (by kernel_rfl) (by kernel_rfl) (by kernel_rfl) (fun _ _ _ h => h) (Or.inl ⟨by rfl, ?hydd13⟩) (by assumption) ?restdd13
            case hydd13 => (intro wS hSw; (try dsimp only at hSw); (repeat (obtain ⟨_, hSw⟩ := hSw)); go_simp; try (with_reducible rfl))
            try simp only [Act.put, List.setIfInBounds_toArray, List.set_cons_zero, List.set_cons_succ]
            refine wpAnyH_take (i := 14) (oi := { dst := some 50, op := Op.move (Operand.tmp 7), type := 50, pos := "dtdlex.go:282", after := #[{ on := 9, ground := Ground.guard }], guard := some (9, false) }) (v := ?vvdd14) rfl (by kernel_rfl) (by kernel_rfl) (by kernel_rfl) (fun _ _ _ h => h) (Or.inl ⟨by rfl, ?hydd14⟩) (by assumption) ?restdd14
            case hydd14 => (intro wS hSw; (try dsimp only at hSw); (repeat (obtain ⟨_, hSw⟩ := hSw)); go_simp; try (with_reducible rfl))
            try simp only [Act.put, List.setIfInBounds_toArray, List.set_cons_zero, List.set_cons_succ]
            refine wpAnyH_take (i := 15) (oi := { dst := some 51, op := Op.nilCheck (Operand.tmp 50), type := 0, pos := "dtdlex.go:282", after := #[{ on := 14, ground := Ground.data }, { on := 9, ground := Ground.guard }], guard := some (9, false) }) (v := ?vvdd15) rfl (by kernel_rfl) (by kernel_rfl) (by kernel_rfl) (fun _ _ _ h => h) (Or.inl ⟨by rfl, ?hydd15⟩) (by assumption) ?restdd15
            case hydd15 => (intro wS hSw; (try dsimp only at hSw); (repeat (obtain ⟨_, hSw⟩ := hSw)); go_simp; try (with_reducible rfl))
            try simp only [Act.put, List.setIfInBounds_toArray, List.set_cons_zero, List.set_cons_succ]
            refine wpAnyH_take (i := 16) (oi := { dst := some 52, op := Op.fieldAddr 52 (Operand.tmp 51) 1, type := 0, pos := "dtdlex.go:282", after := #[{ on := 15, ground := Ground.data }, { on := 9, ground := Ground.guard }], guard := some (9, false) }) (v := ?vvdd16) rfl (by kernel_rfl) (by kernel_rfl) (by kernel_rfl) (fun _ _ _ h => h) (Or.inl ⟨by rfl, ?hydd16⟩) (by assumption) ?restdd16
            case hydd16 => (intro wS hSw; (try dsimp only at hSw); (repeat (obtain ⟨_, hSw⟩ := hSw)); go_simp; try (with_reducible rfl))
            try simp only [Act.put, List.setIfInBounds_toArray, List.set_cons_zero, List.set_cons_succ]
            refine wpAnyH_ready (rs := [13, 17]) (by kernel_rfl) (by simp) ?_
            refine AllReadyH.cons (o := { dst := some 49, op := Op.load 3 (Operand.tmp 48), type := 3, pos := "dtdlex.go:282", after := #[{ on := 12, ground := Ground.data }, { on := 9, ground := Ground.guard }], guard := some (9, false) }) rfl (fun K hK => ?stepdd17) ?moredd17
            case stepdd17 =>
              go_simp
              refine hK.out _ _ (by trivial) (fun hHeld => ?_)
              clear hK K
              try simp only [Act.put, List.setIfInBounds_toArray, List.set_cons_zero, List.set_cons_succ]
              refine wpAnyH_ready (rs := [17]) (by kernel_rfl) (by simp) ?_
              refine AllReadyH.cons (o := { dst := some 53, op := Op.load 25 (Operand.tmp 52), type := 25, pos := "dtdlex.go:282", after := #[{ on := 16, ground := Ground.data }, { on := 9, ground := Ground.guard }], guard := some (9, false) }) rfl (fun K hK => ?stepdd18) ?moredd18
              case stepdd18 =>
                go_simp
                refine hK.out _ _ (by trivial) (fun hHeld => ?_)
                clear hK K
                try simp only [Act.put, List.setIfInBounds_toArray, List.set_cons_zero, List.set_cons_succ]
                refine wpAnyH_take (i := 18) (oi := { dst := some 54, op := Op.call { callee := Callee.builtin Builtin.len, args := #[Operand.tmp 53], argTypes := #[25] }, type := 3, pos := "dtdlex.go:282", after := #[{ on := 17, ground := Ground.data }, { on := 9, ground := Ground.guard }], guard := some (9, false) }) (v := ?vvdd19) rfl (by kernel_rfl) (by kernel_rfl) (by kernel_rfl) (fun _ _ _ h => h) (Or.inl ⟨by rfl, ?hydd19⟩) (by assumption) ?restdd19
                case hydd19 => (intro wS hSw; (try dsimp only at hSw); (repeat (obtain ⟨_, hSw⟩ := hSw)); go_simp; try (with_reducible rfl))
                try simp only [Act.put, List.setIfInBounds_toArray, List.set_cons_zero, List.set_cons_succ]
                refine wpAnyH_take (i := 19) (oi := { dst := some 55, op := Op.binOp BinOp.lss 3 (Operand.tmp 49) (Operand.tmp 54) 3, type := 4, pos := "dtdlex.go:282", after := #[{ on := 13, ground := Ground.data }, { on := 18, ground := Ground.data }, { on := 9, ground := Ground.guard }], guard := some (9, false) }) (v := ?vvdd20) rfl (by kernel_rfl) (by kernel_rfl) (by kernel_rfl) (fun _ _ _ h => h) (Or.inl ⟨by rfl, ?hydd20⟩) (by assumption) ?restdd20
                case hydd20 => (intro wS hSw; (try dsimp only at hSw); (repeat (obtain ⟨_, hSw⟩ := hSw)); go_simp; try (with_reducible rfl))
                try simp only [Act.put, List.setIfInBounds_toArray, List.set_cons_zero, List.set_cons_succ]
                refine wpAnyH_take (i := 20) (oi := { dst := some 56, op := Op.pick (Operand.tmp 45) (Operand.const (Value.bool true)) (Operand.tmp 55), type := 4, pos := "dtdlex.go:282", after := #[{ on := 9, ground := Ground.data }, { on := 19, ground := Ground.data }], guard := none }) (v := ?vvdd21) rfl (by kernel_rfl) (by kernel_rfl) (by kernel_rfl) (fun _ _ _ h => h) (Or.inl ⟨by rfl, ?hydd21⟩) (by assumption) ?restdd21
                case hydd21 => (intro wS hSw; (try dsimp only at hSw); (repeat (obtain ⟨_, hSw⟩ := hSw)); go_simp; try (with_reducible rfl))
                try simp only [Act.put, List.setIfInBounds_toArray, List.set_cons_zero, List.set_cons_succ]
                refine wpAnyH_done (by kernel_rfl) ?_ _
                have HVV := Lib.hid (show V = ⟨q, rpb, rsy, isb, true⟩ by rw [HRD.out, t7, if_pos ⟨by trivial, by trivial, by have := HPN.out; omega⟩])
                have g12 : w9.cell? ⟨gh, 12, none⟩ = some (.bool false) := R9.h.cell 12
                have gff := R9.h.frozen
                have gfl := R9.h.lt
                clear x1 x2
                go_upto_region 11 with fail
                refine wp_named ?_
                intro w10 hw10
                have R10 : Rx w2 w10 gr gh A n c PA pn pc (ia + 1) (hdA q rpb rsy isb true) := by
                  rw [hw10]
                  have RR := R9.set 12 (.bool true)
                  exact RR
                clear hw10 g12 gff gfl R9
                have bZ := b2.kept R10.k
                have kZ := k02.trans R10.k
                have bcx := bZ.cell
                have bf := bZ.frozen
                have bl := bZ.lt
                have z0 : w10.cell? ⟨g6, 0, none⟩ = some (.int .i64 0) := bcx 0
                have z1 : w10.cell? ⟨g6, 1, none⟩ = some (.int .i64 0) := bcx 1
                have z2 : w10.cell? ⟨g6, 2, none⟩ = some (.int .i64 0) := bcx 2
                have z3 : w10.cell? ⟨g6, 3, none⟩ = some (.int .i64 0) := bcx 3
                have z4 : w10.cell? ⟨g6, 4, none⟩ = some (.int .i64 0) := bcx 4
                have z5 : w10.cell? ⟨g6, 5, none⟩ = some (.int .i64 0) := bcx 5
                have z6 : w10.cell? ⟨g6, 6, none⟩ = some (.int .i64 0) := bcx 6
                have z7 : w10.cell? ⟨g6, 7, none⟩ = some (.int .i64 0) := bcx 7
                have z8 : w10.cell? ⟨g6, 8, none⟩ = some (.int .i64 0) := bcx 8
                have z9 : w10.cell? ⟨g6, 9, none⟩ = some (.int .i64 0) := bcx 9
                have z10 : w10.cell? ⟨g6, 10, none⟩ = some (.int .i64 0) := bcx 10
                have z11 : w10.cell? ⟨g6, 11, none⟩ = some (.int .i64 0) := bcx 11
                have z12 : w10.cell? ⟨g6, 12, none⟩ = some (.bool false) := bcx 12
                clear bcx
                have h0 : w10.cell? ⟨gh, 0, none⟩ = some (.int .i64 q.k) := R10.h.cell 0
                have h1 : w10.cell? ⟨gh, 1, none⟩ = some (.int .i64 q.f) := R10.h.cell 1
                have h2 : w10.cell? ⟨gh, 2, none⟩ = some (.int .i64 q.t) := R10.h.cell 2
                have h3 : w10.cell? ⟨gh, 3, none⟩ = some (.int .i64 rpb.k) := R10.h.cell 3
                have h4 : w10.cell? ⟨gh, 4, none⟩ = some (.int .i64 rpb.f) := R10.h.cell 4
                have h5 : w10.cell? ⟨gh, 5, none⟩ = some (.int .i64 rpb.t) := R10.h.cell 5
                have h6 : w10.cell? ⟨gh, 6, none⟩ = some (.int .i64 rsy.k) := R10.h.cell 6
                have h7 : w10.cell? ⟨gh, 7, none⟩ = some (.int .i64 rsy.f) := R10.h.cell 7
                have h8 : w10.cell? ⟨gh, 8, none⟩ = some (.int .i64 rsy.t) := R10.h.cell 8
                have h9 : w10.cell? ⟨gh, 9, none⟩ = some (.int .i64 isb.k) := R10.h.cell 9
                have h10 : w10.cell? ⟨gh, 10, none⟩ = some (.int .i64 isb.f) := R10.h.cell 10
                have h11 : w10.cell? ⟨gh, 11, none⟩ = some (.int .i64 isb.t) := R10.h.cell 11
                have h12 : w10.cell? ⟨gh, 12, none⟩ = some (.bool true) := R10.h.cell 12
                have hgl := R10.h.lt
                go_wp2_with fail
                have bN := blk_setH bZ (.int .i64 q.k) (.int .i64 q.f) (.int .i64 q.t) (.int .i64 rpb.k) (.int .i64 rpb.f) (.int .i64 rpb.t) (.int .i64 rsy.k) (.int .i64 rsy.f) (.int .i64 rsy.t) (.int .i64 isb.k) (.int .i64 isb.f) (.int .i64 isb.t) (.bool true)
                have kN := kept_setH kZ hg6 (.int .i64 q.k) (.int .i64 q.f) (.int .i64 q.t) (.int .i64 rpb.k) (.int .i64 rpb.f) (.int .i64 rpb.t) (.int .i64 rsy.k) (.int .i64 rsy.f) (.int .i64 rsy.t) (.int .i64 isb.k) (.int .i64 isb.f) (.int .i64 isb.t) (.bool true)
                change bodyPost _ _ _ _ _ (setH w10 g6 (.int .i64 q.k) (.int .i64 q.f) (.int .i64 q.t) (.int .i64 rpb.k) (.int .i64 rpb.f) (.int .i64 rpb.t) (.int .i64 rsy.k) (.int .i64 rsy.f) (.int .i64 rsy.t) (.int .i64 isb.k) (.int .i64 isb.f) (.int .i64 isb.t) (.bool true))
                generalize setH w10 g6 (.int .i64 q.k) (.int .i64 q.f) (.int .i64 q.t) (.int .i64 rpb.k) (.int .i64 rpb.f) (.int .i64 rpb.t) (.int .i64 rsy.k) (.int .i64 rsy.f) (.int .i64 rsy.t) (.int .i64 isb.k) (.int .i64 isb.f) (.int .i64 isb.t) (.bool true) = wN at bN kN ⊢
                have cN := bN.cell
                have d0 := cN 0
                have d1 := cN 1
                have d2 := cN 2
                have d3 := cN 3
                have d4 := cN 4
                have d5 := cN 5
                have d6 := cN 6
                have d7 := cN 7
                have d8 := cN 8
                have d9 := cN 9
                have d10 := cN 10
                have d11 := cN 11
                have d12 := cN 12
                exact bodyPost_ret (v := .agg #[.int .i64 q.k, .int .i64 q.f, .int .i64 q.t, .int .i64 rpb.k, .int .i64 rpb.f, .int .i64 rpb.t, .int .i64 rsy.k, .int .i64 rsy.f, .int .i64 rsy.t, .int .i64 isb.k, .int .i64 isb.f, .int .i64 isb.t, .bool true]) (by simp [results, Try.results16, go_sem, d0, d1, d2, d3, d4, d5, d6, d7, d8, d9, d10, d11, d12]) rfl ⟨by rw [HVV.out]; rfl, kN⟩
              exact AllReadyH.nil
            refine AllReadyH.cons (o := { dst := some 53, op := Op.load 25 (Operand.tmp 52), type := 25, pos := "dtdlex.go:282", after := #[{ on := 16, ground := Ground.data }, { on := 9, ground := Ground.guard }], guard := some (9, false) }) rfl (fun K hK => ?stepdd22) ?moredd22
            case stepdd22 =>
              go_simp
              refine hK.out _ _ (by trivial) (fun hHeld => ?_)
              clear hK K
              try simp only [Act.put, List.setIfInBounds_toArray, List.set_cons_zero, List.set_cons_succ]
              refine wpAnyH_take (i := 18) (oi := { dst := some 54, op := Op.call { callee := Callee.builtin Builtin.len, args := #[Operand.tmp 53], argTypes := #[25] }, type := 3, pos := "dtdlex.go:282", after := #[{ on := 17, ground := Ground.data }, { on := 9, ground := Ground.guard }], guard := some (9, false) }) (v := ?vvdd23) rfl (by kernel_rfl) (by kernel_rfl) (by kernel_rfl) (fun _ _ _ h => h) (Or.inl ⟨by rfl, ?hydd23⟩) (by assumption) ?restdd23
              case hydd23 => (intro wS hSw; (try dsimp only at hSw); (repeat (obtain ⟨_, hSw⟩ := hSw)); go_simp; try (with_reducible rfl))
              try simp only [Act.put, List.setIfInBounds_toArray, List.set_cons_zero, List.set_cons_succ]
              refine wpAnyH_ready (rs := [13]) (by kernel_rfl) (by simp) ?_
              refine AllReadyH.cons (o := { dst := some 49, op := Op.load 3 (Operand.tmp 48), type := 3, pos := "dtdlex.go:282", after := #[{ on := 12, ground := Ground.data }, { on := 9, ground := Ground.guard }], guard := some (9, false) }) rfl (fun K hK => ?stepdd24) ?moredd24
              case stepdd24 =>
                go_simp
                refine hK.out _ _ (by trivial) (fun hHeld => ?_)
                clear hK K
                try simp only [Act.put, List.setIfInBounds_toArray, List.set_cons_zero, List.set_cons_succ]
                refine wpAnyH_take (i := 19) (oi := { dst := some 55, op := Op.binOp BinOp.lss 3 (Operand.tmp 49) (Operand.tmp 54) 3, type := 4, pos := "dtdlex.go:282", after := #[{ on := 13, ground := Ground.data }, { on := 18, ground := Ground.data }, { on := 9, ground := Ground.guard }], guard := some (9, false) }) (v := ?vvdd25) rfl (by kernel_rfl) (by kernel_rfl) (by kernel_rfl) (fun _ _ _ h => h) (Or.inl ⟨by rfl, ?hydd25⟩) (by assumption) ?restdd25
                case hydd25 => (intro wS hSw; (try dsimp only at hSw); (repeat (obtain ⟨_, hSw⟩ := hSw)); go_simp; try (with_reducible rfl))
                try simp only [Act.put, List.setIfInBounds_toArray, List.set_cons_zero, List.set_cons_succ]
                refine wpAnyH_take (i := 20) (oi := { dst := some 56, op := Op.pick (Operand.tmp 45) (Operand.const (Value.bool true)) (Operand.tmp 55), type := 4, pos := "dtdlex.go:282", after := #[{ on := 9, ground := Ground.data }, { on := 19, ground := Ground.data }], guard := none }) (v := ?vvdd26) rfl (by kernel_rfl) (by kernel_rfl) (by kernel_rfl) (fun _ _ _ h => h) (Or.inl ⟨by rfl, ?hydd26⟩) (by assumption) ?restdd26
                case hydd26 => (intro wS hSw; (try dsimp only at hSw); (repeat (obtain ⟨_, hSw⟩ := hSw)); go_simp; try (with_reducible rfl))
                try simp only [Act.put, List.setIfInBounds_toArray, List.set_cons_zero, List.set_cons_succ]
                refine wpAnyH_done (by kernel_rfl) ?_ _
                have HVV := Lib.hid (show V = ⟨q, rpb, rsy, isb, true⟩ by rw [HRD.out, t7, if_pos ⟨by trivial, by trivial, by have := HPN.out; omega⟩])
                have g12 : w9.cell? ⟨gh, 12, none⟩ = some (.bool false) := R9.h.cell 12
                have gff := R9.h.frozen
                have gfl := R9.h.lt
                clear x1 x2
                go_upto_region 11 with fail
                refine wp_named ?_
                intro w10 hw10
                have R10 : Rx w2 w10 gr gh A n c PA pn pc (ia + 1) (hdA q rpb rsy isb true) := by
                  rw [hw10]
                  have RR := R9.set 12 (.bool true)
                  exact RR
                clear hw10 g12 gff gfl R9
                have bZ := b2.kept R10.k
                have kZ := k02.trans R10.k
                have bcx := bZ.cell
                have bf := bZ.frozen
                have bl := bZ.lt
                have z0 : w10.cell? ⟨g6, 0, none⟩ = some (.int .i64 0) := bcx 0
                have z1 : w10.cell? ⟨g6, 1, none⟩ = some (.int .i64 0) := bcx 1
                have z2 : w10.cell? ⟨g6, 2, none⟩ = some (.int .i64 0) := bcx 2
                have z3 : w10.cell? ⟨g6, 3, none⟩ = some (.int .i64 0) := bcx 3
                have z4 : w10.cell? ⟨g6, 4, none⟩ = some (.int .i64 0) := bcx 4
                have z5 : w10.cell? ⟨g6, 5, none⟩ = some (.int .i64 0) := bcx 5
                have z6 : w10.cell? ⟨g6, 6, none⟩ = some (.int .i64 0) := bcx 6
                have z7 : w10.cell? ⟨g6, 7, none⟩ = some (.int .i64 0) := bcx 7
                have z8 : w10.cell? ⟨g6, 8, none⟩ = some (.int .i64 0) := bcx 8
                have z9 : w10.cell? ⟨g6, 9, none⟩ = some (.int .i64 0) := bcx 9
                have z10 : w10.cell? ⟨g6, 10, none⟩ = some (.int .i64 0) := bcx 10
                have z11 : w10.cell? ⟨g6, 11, none⟩ = some (.int .i64 0) := bcx 11
                have z12 : w10.cell? ⟨g6, 12, none⟩ = some (.bool false) := bcx 12
                clear bcx
                have h0 : w10.cell? ⟨gh, 0, none⟩ = some (.int .i64 q.k) := R10.h.cell 0
                have h1 : w10.cell? ⟨gh, 1, none⟩ = some (.int .i64 q.f) := R10.h.cell 1
                have h2 : w10.cell? ⟨gh, 2, none⟩ = some (.int .i64 q.t) := R10.h.cell 2
                have h3 : w10.cell? ⟨gh, 3, none⟩ = some (.int .i64 rpb.k) := R10.h.cell 3
                have h4 : w10.cell? ⟨gh, 4, none⟩ = some (.int .i64 rpb.f) := R10.h.cell 4
                have h5 : w10.cell? ⟨gh, 5, none⟩ = some (.int .i64 rpb.t) := R10.h.cell 5
                have h6 : w10.cell? ⟨gh, 6, none⟩ = some (.int .i64 rsy.k) := R10.h.cell 6
                have h7 : w10.cell? ⟨gh, 7, none⟩ = some (.int .i64 rsy.f) := R10.h.cell 7
                have h8 : w10.cell? ⟨gh, 8, none⟩ = some (.int .i64 rsy.t) := R10.h.cell 8
                have h9 : w10.cell? ⟨gh, 9, none⟩ = some (.int .i64 isb.k) := R10.h.cell 9
                have h10 : w10.cell? ⟨gh, 10, none⟩ = some (.int .i64 isb.f) := R10.h.cell 10
                have h11 : w10.cell? ⟨gh, 11, none⟩ = some (.int .i64 isb.t) := R10.h.cell 11
                have h12 : w10.cell? ⟨gh, 12, none⟩ = some (.bool true) := R10.h.cell 12
                have hgl := R10.h.lt
                go_wp2_with fail
                have bN := blk_setH bZ (.int .i64 q.k) (.int .i64 q.f) (.int .i64 q.t) (.int .i64 rpb.k) (.int .i64 rpb.f) (.int .i64 rpb.t) (.int .i64 rsy.k) (.int .i64 rsy.f) (.int .i64 rsy.t) (.int .i64 isb.k) (.int .i64 isb.f) (.int .i64 isb.t) (.bool true)
                have kN := kept_setH kZ hg6 (.int .i64 q.k) (.int .i64 q.f) (.int .i64 q.t) (.int .i64 rpb.k) (.int .i64 rpb.f) (.int .i64 rpb.t) (.int .i64 rsy.k) (.int .i64 rsy.f) (.int .i64 rsy.t) (.int .i64 isb.k) (.int .i64 isb.f) (.int .i64 isb.t) (.bool true)
                change bodyPost _ _ _ _ _ (setH w10 g6 (.int .i64 q.k) (.int .i64 q.f) (.int .i64 q.t) (.int .i64 rpb.k) (.int .i64 rpb.f) (.int .i64 rpb.t) (.int .i64 rsy.k) (.int .i64 rsy.f) (.int .i64 rsy.t) (.int .i64 isb.k) (.int .i64 isb.f) (.int .i64 isb.t) (.bool true))
                generalize setH w10 g6 (.int .i64 q.k) (.int .i64 q.f) (.int .i64 q.t) (.int .i64 rpb.k) (.int .i64 rpb.f) (.int .i64 rpb.t) (.int .i64 rsy.k) (.int .i64 rsy.f) (.int .i64 rsy.t) (.int .i64 isb.k) (.int .i64 isb.f) (.int .i64 isb.t) (.bool true) = wN at bN kN ⊢
                have cN := bN.cell
                have d0 := cN 0
                have d1 := cN 1
                have d2 := cN 2
                have d3 := cN 3
                have d4 := cN 4
                have d5 := cN 5
                have d6 := cN 6
                have d7 := cN 7
                have d8 := cN 8
                have d9 := cN 9
                have d10 := cN 10
                have d11 := cN 11
                have d12 := cN 12
                exact bodyPost_ret (v := .agg #[.int .i64 q.k, .int .i64 q.f, .int .i64 q.t, .int .i64 rpb.k, .int .i64 rpb.f, .int .i64 rpb.t, .int .i64 rsy.k, .int .i64 rsy.f, .int .i64 rsy.t, .int .i64 isb.k, .int .i64 isb.f, .int .i64 isb.t, .bool true]) (by simp [results, Try.results16, go_sem, d0, d1, d2, d3, d4, d5, d6, d7, d8, d9, d10, d11, d12]) rfl ⟨by rw [HVV.out]; rfl, kN⟩
              exact AllReadyH.nil
            exact AllReadyH.nil
          exact AllReadyH.nil
        exact AllReadyH.nil
      exact AllReadyH.nil
end Go.Proofs.Ytnfcfpcpfnhcnaa
