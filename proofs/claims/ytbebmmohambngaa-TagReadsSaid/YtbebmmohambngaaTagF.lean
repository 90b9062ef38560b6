/- The reference's Read of layer 8, walked. -/
import Derived.Test.YtbebmmohambngaaTagD
import Derived.Test.YtbebmmohambngaaTagC
namespace Go.Proofs.Ytbebmmohambngaa
open Go.RowKit
attribute [local go_sem ↓] Go.wp_at_zero Go.wp_at_succ

theorem appT_ratr : AppT Try.prog 38 43 9 := appT_mk (z := .agg #[.int .i64 0, .int .i64 0, .int .i64 0, .int .i64 0, .int .i64 0, .int .i64 0, .int .i64 0, .int .i64 0, .int .i64 0]) (bytes := 72) Try.underlying38 (by kernel_rfl) rfl (by omega) (by omega)
theorem takeF_two_kind (P : List Prt) : takeF [1, 2] P = (decide (kindN P 0 = 1) && decide (kindN P 1 = 2)) := by
  match P with
  | [] => simp [takeF, kindN]
  | [a] => simp [takeF, kindN]
  | a :: b :: R =>
    rw [Bool.eq_iff_iff]
    simp [takeF, kindN]
theorem pieceF_one {s : List Int} {b : Bool} (h : (pieceF s b).1 = 1) : (pieceF s b).2 = 1 ∨ (pieceF s b).2 = 2 := by
  unfold pieceF at h ⊢
  (repeat' split at h) <;> simp_all
theorem partsL_one {l : List Int} {f t : Int} {p : Prt} {R : List Prt} (h : partsL l f t = p :: R) (hk : p.k = 1) : p.t - p.f = 1 ∨ p.t - p.f = 2 := by
  unfold partsL at h
  split at h
  · cases h
  · by_cases hs : (l.take t.toNat).drop f.toNat = []
    · rw [hs, partsX_nil] at h
      cases h
    · rw [partsX_cons _ _ _ hs] at h
      injection h with h1 h2
      subst h1
      have := pieceF_one hk
      dsimp only
      omega
theorem kind_at {P : List Prt} {k : Nat} {x : Int} (hx : x ≠ 0) (h : kindN P k = x) : ∃ p, P[k]? = some p ∧ p.k = x := by
  unfold kindN at h
  cases hp : P[k]? with
  | none => rw [hp] at h; exact absurd h.symm hx
  | some p => rw [hp] at h; exact ⟨p, rfl, h⟩

set_option maxRecDepth 100000 in
set_option maxHeartbeats 4000000 in
theorem rread_none (A : Option Addr) (n c : Nat) (l : List Int) (f t : Int) (w : World) (h : Sl w 1 A n c (l.map (Value.int .i32))) (hn : n ≤ 1000000) (hr : Rn l) (ht : takeF [1, 2] (partsL l f t) = false) :
    Calls Try.prog 12 #[.slice A n c, .int .i64 f, .int .i64 t] w fun e w' => TagOf ⟨noPrt, [], false, false⟩ e w w' := by
  rw [takeF_two_kind] at ht
  go_enter Try.func12, Try.ntmps12
  go_wp2_with fail
  refine (rparts_any _ _ _ l f t _ (h.kept ?_) hn hr).mono ?_
  · repeat (first | exact Kept.refl _ | refine Kept.alloc ?_ _)
  rintro e w1 ⟨A', c', rfl, hP, hk1⟩
  have B6 := (Blk.new w #[.int .i64 0, .int .i64 0, .int .i64 0, .slice none 0 0, .bool false, .bool false] 40).kept hk1
  have hK : Kept w w1 := ((Kept.refl w).alloc _).trans hk1
  have l6 := B6.lt
  obtain ⟨P, hPe⟩ : ∃ P, partsL l f t = P := ⟨_, rfl⟩
  rw [hPe] at hP ht ⊢
  clear hPe
  go_wp2_with fail
  have C6 := B6.alloc (.cells #[.int .i64 0, .int .i64 0, .int .i64 0, .slice none 0 0, .bool false, .bool false] 40)
  have C8 := Blk.new w1 #[.int .i64 0, .int .i64 0, .int .i64 0, .slice none 0 0, .bool false, .bool false] 40
  have hP2 := hP.kept ((Kept.refl w1).alloc (.cells #[.int .i64 0, .int .i64 0, .int .i64 0, .slice none 0 0, .bool false, .bool false] 40))
  have hK2 := hK.alloc (.cells #[.int .i64 0, .int .i64 0, .int .i64 0, .slice none 0 0, .bool false, .bool false] 40)
  refine (rkind_any A' _ c' P 0 _ hP2 (by omega)).mono ?_
  rintro e w2 ⟨rfl, hw⟩
  rw [hw] at C6 C8 hP2 hK2
  clear hw
  have f6 := C6.cell
  have g6 := C6.frozen
  have f8 := C8.cell
  by_cases k0 : kindN P 0 = 1
  · have e0 : (kindN P 0 != 1) = false := by simpa using k0
    have k1 : ¬ kindN P 1 = 2 := by simpa [k0] using ht
    have e1 : (kindN P 1 != 2) = true := by simpa using k1
    clear k0 k1 ht
    go_wp2_with fail
    refine (rkind_any A' _ c' P 1 _ hP2 (by omega)).mono ?_
    rintro e w3 ⟨rfl, rfl⟩
    go_wp2_with fail
    refine bodyPost_ret (v := .agg #[.int .i64 0, .int .i64 0, .int .i64 0, .slice none 0 0, .bool false, .bool false]) ?_ rfl ⟨none, 0, rfl, Sl.nil_, by repeat (first | (with_reducible exact hK2) | (with_reducible refine Kept.alloc ?_ _) | (with_reducible refine Kept.setCell ?_ (by simp) _))⟩
    simp [results, Try.results12, go_sem, f6]
  · have e0 : (kindN P 0 != 1) = true := by simpa using k0
    clear k0 ht
    go_wp2_with fail
    refine bodyPost_ret (v := .agg #[.int .i64 0, .int .i64 0, .int .i64 0, .slice none 0 0, .bool false, .bool false]) ?_ rfl ⟨none, 0, rfl, Sl.nil_, by repeat (first | (with_reducible exact hK2) | (with_reducible refine Kept.alloc ?_ _) | (with_reducible refine Kept.setCell ?_ (by simp) _))⟩
    simp [results, Try.results12, go_sem, f6]

set_option maxRecDepth 100000 in
set_option maxHeartbeats 8000000 in
theorem rread_some (A : Option Addr) (n c : Nat) (l : List Int) (f t : Int) (w : World) (h : Sl w 1 A n c (l.map (Value.int .i32))) (hn : n ≤ 1000000) (hr : Rn l) (ht : takeF [1, 2] (partsL l f t) = true) :
    Calls Try.prog 12 #[.slice A n c, .int .i64 f, .int .i64 t] w fun e w' => TagOf (readF (partsL l f t)) e w w' := by
  have HLl := Lib.hid h.llen1
  have hlen : (partsL l f t).length ≤ 1000000 := by
    have := partsL_len l f t
    have := HLl.out
    omega
  obtain ⟨p0, p1, R, hPR, hk0, hk1'⟩ := takeF_two ht
  have hone := partsL_one hPR hk0
  go_enter Try.func12, Try.ntmps12
  go_wp2_with fail
  refine (rparts_any _ _ _ l f t _ (h.kept ?_) hn hr).mono ?_
  · repeat (first | exact Kept.refl _ | refine Kept.alloc ?_ _)
  rintro e w1 ⟨A', c', rfl, hP, hk1⟩
  have B6 := (Blk.new w #[.int .i64 0, .int .i64 0, .int .i64 0, .slice none 0 0, .bool false, .bool false] 40).kept hk1
  have l6 := B6.lt
  have hK : Kept w w1 := ((Kept.refl w).alloc _).trans hk1
  obtain ⟨P, hPe⟩ : ∃ P, partsL l f t = P := ⟨_, rfl⟩
  rw [hPe] at hP ht hPR hlen ⊢
  have HPe := Lib.hid hPe
  clear hPe
  obtain ⟨N, hN⟩ : ∃ N, P.length = N := ⟨_, rfl⟩
  rw [hN] at hP hlen ⊢
  have HN := Lib.hid hN
  have hN2 : 2 ≤ N := by rw [hPR] at hN; simp at hN; omega
  clear hN
  have e0 : kindN P 0 = 1 := by unfold kindN; rw [hPR]; exact hk0
  have e1 : kindN P 1 = 2 := by unfold kindN; rw [hPR]; exact hk1'
  have HPR := Lib.hid hPR
  have Hht := Lib.hid ht
  clear hPR ht hk0 hk1' h hk1
  have hcap := hP.cap
  have hmax := hP.max
  go_wp2_with fail
  have C8 := Blk.new w1 #[.int .i64 0, .int .i64 0, .int .i64 0, .slice none 0 0, .bool false, .bool false] 40
  have hP2 := hP.kept ((Kept.refl w1).alloc (.cells #[.int .i64 0, .int .i64 0, .int .i64 0, .slice none 0 0, .bool false, .bool false] 40))
  have hK2 := (Kept.refl w1).alloc (.cells #[.int .i64 0, .int .i64 0, .int .i64 0, .slice none 0 0, .bool false, .bool false] 40)
  refine (rkind_any A' _ c' P 0 _ hP2 (by omega)).mono ?_
  rintro e w2 ⟨rfl, hw⟩
  rw [hw] at C8 hP2 hK2
  clear hw
  have f8 := C8.cell
  have g8 := C8.frozen
  rw [e0]
  go_wp2_with fail
  refine (rkind_any A' _ c' P 1 _ hP2 (by omega)).mono ?_
  rintro e w3 ⟨rfl, rfl⟩
  rw [e1]
  obtain ⟨b, o, q, rfl, hq, x0, x1, x2, hb⟩ := elem_prt hP2 (k := 1) (by omega)
  obtain rfl : p1 = q := by rw [HPR.out] at hq; simpa using hq
  obtain ⟨y0, y1, y2⟩ : w1.cell? ⟨b, o, none⟩ = some (.int .i64 p0.k) ∧ w1.cell? ⟨b, o + 1, none⟩ = some (.int .i64 p0.f) ∧ w1.cell? ⟨b, o + 2, none⟩ = some (.int .i64 p0.t) := by
    obtain ⟨b', o', q, hA, hq, z0, z1, z2, _⟩ := elem_prt hP (k := 0) (by omega)
    injection hA with hA
    injection hA with h1 h2
    subst h1 h2
    obtain rfl : p0 = q := by rw [HPR.out] at hq; simpa using hq
    simp at z0 z1 z2
    exact ⟨z0, z1, z2⟩
  have hbA := hP.lt (by omega) (by omega) b o rfl
  clear hq e0 e1
  go_wp2_with fail
  go_loopw [9, 10] (fun s9 s10 wr => ∃ (j : Nat) (os : List Atr) (VA : Option Addr) (VC : Nat), s9 = .int .i64 j ∧ s10 = .int .i64 os.length ∧ 4 * os.length + 2 ≤ j ∧ j ≤ N ∧
    Blk wr w1.heap.size #[.int .i64 p1.k, .int .i64 p1.f, .int .i64 p1.t, .slice VA os.length VC, .bool false, .bool false] 40 ∧
    wr.ownsRow (w1.heap.size + 1) 43 9 (.slice VA os.length VC) os.length (os.flatMap atrC) ∧ Kept w1 wr ∧ Hid (attrsX P 2 = (os ++ (attrsX P j).1, (attrsX P j).2))) (fun _ v _ => N - (intOf v).toNat)
  case atStart =>
    refine ⟨2, [], none, 0, rfl, rfl, by simp, hN2, ?_, World.ownsRow_nil _ _ _ _, ?_, by simp [Hid]⟩
    · have C9 := ((C8.set 0 (.int .i64 p1.k)).set 1 (.int .i64 p1.f)).set 2 (.int .i64 p1.t)
      simp only [List.setIfInBounds_toArray, List.set_cons_zero, List.set_cons_succ] at C9
      rw [List.length_nil]
      exact C9
    · repeat (first | (with_reducible exact hK2) | (with_reducible refine Kept.alloc ?_ _) | (with_reducible refine Kept.setCell ?_ (by simp) _))
  case round =>
    obtain ⟨j, os, VA, VC, rfl, rfl, hj4, hjN, GT, hown, hk, HXs⟩ := hrel
    by_cases hlt : os.length < N
    rotate_left
    · exfalso
      omega
    · have hPr := hP.kept hk
      cases ha : attrF P j with
      | none =>
        have HXs2 : Hid (attrsX P 2 = (os, j)) := by
          have := HXs.out
          rw [attrsX_none ha, List.append_nil] at this
          exact this
        clear HXs
        go_wp2_with fail
        refine (rattr_no _ _ _ P j _ hPr hjN hlen ha).mono ?_
        rintro e w3 ⟨rfl, hk3⟩
        obtain ⟨VA2, VC2, hVe, hV⟩ := own_sl hown
        injection hVe with e1 e2 e3
        subst e1 e3
        have K3 : Kept w1 w3 := hk.trans hk3
        have HVT : 0 < os.length → ∀ b o, VA = some ⟨b, o, none⟩ → w1.heap.size < b := fun _ b o e => by
          subst e
          have := hown.lt b rfl
          omega
        have HNo := Lib.hid ha
        clear ha
        have hAg := (Kept.refl w3).alloc (.cells #[.int .i64 0, .int .i64 0, .int .i64 0, .int .i64 0, .int .i64 0, .int .i64 0, .int .i64 0, .int .i64 0, .int .i64 0] 43)
        have K4 := K3.trans hAg
        have T4 := (GT.kept hk3).kept hAg
        have HV4 := (hV.kept hk3).kept hAg
        go_wp2_with fail
        refine (rblank_any _ _ _ P j _ (hP.kept K4) (by omega)).mono ?_
        rintro e w4 ⟨rfl, hw⟩
        rw [hw] at K4 T4 HV4
        clear hw hAg
        have B4 := B6.kept K4
        have HK4 := hK.trans K4
        have f6 := B4.cell
        have g6 := B4.frozen
        have f8 := T4.cell
        have g8 := T4.frozen
        have hP4 := hP.kept K4
        have l4 := K4.size
        obtain ⟨E, hE⟩ : ∃ E, j + skipN (P.drop j) = E := ⟨_, rfl⟩
        have hEb : E ≤ j + 1 := by unfold skipN at hE; split at hE <;> omega
        rw [hE]
        have HE := Lib.hid hE
        clear hE
        go_wp2_with fail
        refine (rkind_any _ _ _ P E _ hP4 (by omega)).mono ?_
        rintro e w5 ⟨rfl, rfl⟩
        have n68 : (w.heap.size = w1.heap.size) = False := by simp; omega
        have n86 : (w1.heap.size = w.heap.size) = False := by simp; omega
        by_cases k6 : kindN P E = 6
        rotate_left
        · have hF := readF_shut HPR.out Hht.out HXs2.out HE.out (by rw [takeF_kind (by omega)]; simpa using k6)
          have HF := Lib.hid hF
          clear hF
          have e6 : (kindN P E != 6) = true := by simpa using k6
          clear k6
          go_wp2_with fail
          refine bodyPost_ret (v := .agg #[.int .i64 p1.k, .int .i64 p1.f, .int .i64 p1.t, .slice VA os.length VC, .bool false, .bool false]) ?_ rfl ?_
          · simp [results, Try.results12, go_sem, f6]
          · rw [HPe.out, HF.out]
            exact ⟨VA, VC, rfl, by repeat (first | (with_reducible exact HV4) | (with_reducible refine Sl.drewN ?_ _) | (with_reducible refine Sl.drew ?_) | (with_reducible refine Sl.above ?_ HVT (by simp; try omega) _)), by repeat (first | (with_reducible exact HK4) | (with_reducible refine Kept.drewN ?_ _) | (with_reducible refine Kept.drew ?_) | (with_reducible refine Kept.setCell ?_ (by simp; try omega) _))⟩
        · obtain ⟨pc, hpc, hpk⟩ := kind_at (by omega) k6
          have hEN := (List.getElem?_eq_some_iff.1 hpc).1
          rw [HN.out] at hEN
          have t6 : takeF [6] (P.drop E) = true := by rw [takeF_kind (by omega)]; simpa using k6
          rw [k6]
          by_cases hEq : E + 1 = N
          rotate_left
          · have hF := readF_more (E := E) HPR.out Hht.out HXs2.out HE.out (by rw [HN.out]; exact hEq)
            have HF := Lib.hid hF
            clear hF
            have HPC := Lib.hid hpc
            have e7 : (((E : Int) + 1) != (N : Int)) = true := by simp; omega
            have e8 : ((E + 1) != N) = true := by simp; omega
            clear hpc hpk k6 t6
            go_wp2_with fail
            refine bodyPost_ret (v := .agg #[.int .i64 p1.k, .int .i64 p1.f, .int .i64 p1.t, .slice VA os.length VC, .bool false, .bool false]) ?_ rfl ?_
            · simp [results, Try.results12, go_sem, f6]
            · rw [HPe.out, HF.out]
              exact ⟨VA, VC, rfl, by repeat (first | (with_reducible exact HV4) | (with_reducible refine Sl.drewN ?_ _) | (with_reducible refine Sl.drew ?_) | (with_reducible refine Sl.above ?_ HVT (by simp; try omega) _)), by repeat (first | (with_reducible exact HK4) | (with_reducible refine Kept.drewN ?_ _) | (with_reducible refine Kept.drew ?_) | (with_reducible refine Kept.setCell ?_ (by simp; try omega) _))⟩
          · have hF := readF_right HPR.out Hht.out HXs2.out HE.out t6 (by rw [HN.out]; exact hEq) hpc
            have hbd6 := partsL_bd (l := l) (f := f) (t := t) (k := E) (p := pc) (by have := HLl.out; omega) (by rw [HPe.out]; exact hpc)
            have hbd0 := partsL_bd (l := l) (f := f) (t := t) (k := 0) (p := p0) (by have := HLl.out; omega) (by rw [HPe.out, HPR.out]; rfl)
            obtain ⟨b', o', q, hA, hq, z0, z1, z2, hb4⟩ := elem_prt hP4 (k := E) (by omega)
            injection hA with hA
            injection hA with h1 h2
            subst h1 h2
            obtain rfl : pc = q := by rw [hpc] at hq; simpa using hq
            have u1 := K4.cell y1
            have u2 := K4.cell y2
            obtain ⟨D6, hD6⟩ : ∃ D, pc.t - pc.f = D := ⟨_, rfl⟩
            obtain ⟨D0, hD0⟩ : ∃ D, p0.t - p0.f = D := ⟨_, rfl⟩
            have w6' : IntKind.i64.wrap (pc.t - pc.f) = D6 := by rw [IntWalk.i64_in _ (by omega), hD6]
            have w0' : IntKind.i64.wrap (p0.t - p0.f) = D0 := by rw [IntWalk.i64_in _ (by omega), hD0]
            obtain ⟨s6, hs6e⟩ : ∃ s, (D6 == 2) = s := ⟨_, rfl⟩
            obtain ⟨s0, hs0e⟩ : ∃ s, (D0 == 2) = s := ⟨_, rfl⟩
            have hs01 : (D0 == 1) = !s0 := by rw [← hs0e]; rcases hone with h1 | h1 <;> rw [← hD0, h1] <;> rfl
            rw [hD6, hD0, hs6e, hs01] at hF
            clear hD6 hD0 hs01 hone
            have HF := Lib.hid hF
            clear hF hpk hq hpc k6 t6 hbd6 hbd0 z0
            have e7 : (((E : Int) + 1) != (N : Int)) = false := by simp; omega
            have e8 : ((E + 1) != N) = false := by simp; omega
            go_wp2_with fail
            go_quiet (fail)
            all_goals go_wp2_with fail
            go_quiet (fail)
            cases s0
            · cases s6
              · go_wp2_with fail
                refine bodyPost_ret (v := .agg #[.int .i64 p1.k, .int .i64 p1.f, .int .i64 p1.t, .slice VA os.length VC, .bool true, .bool false]) ?_ rfl ?_
                · simp [results, Try.results12, go_sem, f6]
                · rw [HPe.out, HF.out]
                  exact ⟨VA, VC, rfl, by repeat (first | (with_reducible exact HV4) | (with_reducible refine Sl.drewN ?_ _) | (with_reducible refine Sl.drew ?_) | (with_reducible refine Sl.above ?_ HVT (by simp; try omega) _)), by repeat (first | (with_reducible exact HK4) | (with_reducible refine Kept.drewN ?_ _) | (with_reducible refine Kept.drew ?_) | (with_reducible refine Kept.setCell ?_ (by simp; try omega) _))⟩
              · go_wp2_with fail
                refine bodyPost_ret (v := .agg #[.int .i64 p1.k, .int .i64 p1.f, .int .i64 p1.t, .slice VA os.length VC, .bool true, .bool true]) ?_ rfl ?_
                · simp [results, Try.results12, go_sem, f6]
                · rw [HPe.out, HF.out]
                  exact ⟨VA, VC, rfl, by repeat (first | (with_reducible exact HV4) | (with_reducible refine Sl.drewN ?_ _) | (with_reducible refine Sl.drew ?_) | (with_reducible refine Sl.above ?_ HVT (by simp; try omega) _)), by repeat (first | (with_reducible exact HK4) | (with_reducible refine Kept.drewN ?_ _) | (with_reducible refine Kept.drew ?_) | (with_reducible refine Kept.setCell ?_ (by simp; try omega) _))⟩
            · by_cases hnil : os = []
              · have x2 : ((os.length : Int) == 0) = true := by rw [hnil]; rfl
                have x3 : os.isEmpty = true := by rw [hnil]; rfl
                rw [x3] at HF
                clear hnil x3
                cases s6
                · go_wp2_with fail
                  refine bodyPost_ret (v := .agg #[.int .i64 p1.k, .int .i64 p1.f, .int .i64 p1.t, .slice VA os.length VC, .bool true, .bool false]) ?_ rfl ?_
                  · simp [results, Try.results12, go_sem, f6]
                  · rw [HPe.out, HF.out]
                    exact ⟨VA, VC, rfl, by repeat (first | (with_reducible exact HV4) | (with_reducible refine Sl.drewN ?_ _) | (with_reducible refine Sl.drew ?_) | (with_reducible refine Sl.above ?_ HVT (by simp; try omega) _)), by repeat (first | (with_reducible exact HK4) | (with_reducible refine Kept.drewN ?_ _) | (with_reducible refine Kept.drew ?_) | (with_reducible refine Kept.setCell ?_ (by simp; try omega) _))⟩
                · go_wp2_with fail
                  refine bodyPost_ret (v := .agg #[.int .i64 p1.k, .int .i64 p1.f, .int .i64 p1.t, .slice VA os.length VC, .bool false, .bool false]) ?_ rfl ?_
                  · simp [results, Try.results12, go_sem, f6]
                  · rw [HPe.out, HF.out]
                    exact ⟨VA, VC, rfl, by repeat (first | (with_reducible exact HV4) | (with_reducible refine Sl.drewN ?_ _) | (with_reducible refine Sl.drew ?_) | (with_reducible refine Sl.above ?_ HVT (by simp; try omega) _)), by repeat (first | (with_reducible exact HK4) | (with_reducible refine Kept.drewN ?_ _) | (with_reducible refine Kept.drew ?_) | (with_reducible refine Kept.setCell ?_ (by simp; try omega) _))⟩
              · have x2 : ((os.length : Int) == 0) = false := by simpa using hnil
                have x3 : os.isEmpty = false := by cases os <;> simp at hnil ⊢
                rw [x3] at HF
                clear hnil x3
                go_wp2_with fail
                refine bodyPost_ret (v := .agg #[.int .i64 p1.k, .int .i64 p1.f, .int .i64 p1.t, .slice VA os.length VC, .bool false, .bool (s6 && false)]) ?_ rfl ?_
                · simp [results, Try.results12, go_sem, f6]
                · rw [HPe.out, HF.out]
                  exact ⟨VA, VC, rfl, by repeat (first | (with_reducible exact HV4) | (with_reducible refine Sl.drewN ?_ _) | (with_reducible refine Sl.drew ?_) | (with_reducible refine Sl.above ?_ HVT (by simp; try omega) _)), by repeat (first | (with_reducible exact HK4) | (with_reducible refine Kept.drewN ?_ _) | (with_reducible refine Kept.drew ?_) | (with_reducible refine Kept.setCell ?_ (by simp; try omega) _))⟩
      | some r =>
        have hr4 := attrF_lt (a := r.1) (N := r.2) ha
        have HA := Lib.hid ha
        go_wp2_with fail
        refine (rattr_yes _ _ _ P j _ hPr hjN hlen r.1 r.2 ha).mono ?_
        rintro e w3 ⟨rfl, hk3⟩
        obtain ⟨a, M⟩ := r
        clear ha
        dsimp only at hr4
        obtain ⟨HM1, HM2⟩ : j + 4 ≤ M ∧ M ≤ N := ⟨hr4.1, by have := HN.out; omega⟩
        clear hr4
        have G3 := GT.kept hk3
        have own3 := own_kept hown hk3
        have f8 := G3.cell
        have g8 := G3.frozen
        have l8 := G3.lt
        have n8 : (w3.heap.size = w1.heap.size) = False := by simp; omega
        have n8' : (w1.heap.size = w3.heap.size) = False := by simp; omega
        have K3 : Kept w1 w3 := hk.trans hk3
        simp only [atrC, prtC, List.cons_append, List.nil_append]
        go_wp2_with (at_builtin; refine wpList_app (by rfl) _ _ (by rfl) appT_ratr (by rfl) ((own3.alloc _).alloc _) (by rfl) (Sl.litg (by simp) ?_ (by omega)) ?_ ?_ ?_ ?_; (exact rfl); (exact rfl); (omega); (simp; omega); (intro v' w' hown' hgr hob; obtain ⟨VA', VC', rfl, hVs⟩ := own_sl hown'; have hv7 : some w1.heap.size ≠ (Value.slice VA os.length VC).ownBlock := (fun e => by have := hown.lt _ e.symm; omega); have J7 := ((G3.alloc _).alloc _).grown hgr hv7; have j7 := J7.cell; have q7 := J7.frozen; have K4 := ((K3.alloc _).alloc _).grown hgr (fun k e => by have := hown.lt k e; omega)))
        go_roundw
        case rel =>
          have hlen1 : (os ++ [a]).length = os.length + 1 := by simp
          have hfl : (os ++ [a]).flatMap atrC = os.flatMap atrC ++ [.int .i64 a.name.k, .int .i64 a.name.f, .int .i64 a.name.t, .int .i64 a.value.k, .int .i64 a.value.f, .int .i64 a.value.t, .int .i64 a.all.k, .int .i64 a.all.f, .int .i64 a.all.t] := by simp [atrC, prtC]
          have hvT : (Value.slice VA' (os.length + 1) VC').ownBlock ≠ some w1.heap.size := fun e => by have := hown'.lt _ e; omega
          refine ⟨M, os ++ [a], VA', VC', rfl, by rw [hlen1]; simp, by rw [hlen1]; omega, HM2, ?_, ?_, ?_, ?_⟩
          · have J8 := J7.set 3 (.slice VA' (os.length + 1) VC')
            simp only [List.setIfInBounds_toArray, List.set_cons_zero, List.set_cons_succ] at J8
            rw [hlen1]
            exact J8
          · rw [hlen1, hfl]
            exact own_far hown' rfl hvT _
          · exact K4.setCell (by simp) _
          · have := HXs.out
            rw [attrsX_some HA.out] at this
            simpa [Hid] using this
        case measure =>
          simp [intOf]
          omega
end Go.Proofs.Ytbebmmohambngaa
