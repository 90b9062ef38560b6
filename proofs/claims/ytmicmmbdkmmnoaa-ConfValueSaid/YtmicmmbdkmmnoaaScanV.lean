/- The reference's pieces of bytes (layer 1), walked. -/
import Derived.Test.YtmicmmbdkmmnoaaScanR
namespace Go.Proofs.Ytmicmmbdkmmnoaa
open Go.RowKit
attribute [local go_sem ↓] Go.wp_at_zero Go.wp_at_succ

theorem rwidth_any (r : Int) (w : World) : Calls Try.prog 76 #[.int .i32 r] w fun e w' => e = .returned (.int .i64 (widthF r)) ∧ w = w' := by
  go_enter Try.func76, Try.ntmps76
  go_wp2
  all_goals go_ret
  all_goals
    refine ⟨ret_int ?_, rfl⟩
    unfold widthF
    repeat' split
    all_goals omega
theorem rune_any (v : Int) (w : World) (h0 : 0 ≤ v) (h1 : v ≤ 1114111) : Calls Try.prog 69 #[.int .i32 v] w fun e w' => ∃ A c, e = .returned (.slice A (encF v).length c) ∧ Sl w' 1 A (encF v).length c ((encF v).map (Value.int .u8)) ∧ Kept w w' := by
  have c1 : IntKind.i64.wrap v = v := IntWalk.i64_in _ (by omega)
  by_cases k1 : v < 128
  · have hw : widthF v = 1 := by unfold widthF; rw [if_neg (by omega), if_pos k1]
    rw [encF_one h0 k1]
    have c2 : IntKind.u8.wrap v = v := by
      have : 0 ≤ v ∧ v ≤ 255 := by omega
      simp [IntKind.wrap, IntKind.signed, IntKind.bits]
      omega
    clear h1
    go_enter Try.func69, Try.ntmps69
    go_wp2_with fail
    refine (rwidth_any v w).mono ?_
    rintro e w1 ⟨rfl, rfl⟩
    rw [hw]
    go_wp2_with fail
    go_ret
    exact ⟨_, _, rfl, Sl.litg (by rfl) rfl (by omega), (Kept.refl _).alloc _⟩
  by_cases k2 : v < 2048
  · have hw : widthF v = 2 := by unfold widthF; rw [if_neg (by omega), if_neg k1, if_pos k2]
    rw [encF_two (by omega) k2]
    go_enter Try.func69, Try.ntmps69
    go_wp2_with fail
    refine (rwidth_any v w).mono ?_
    rintro e w1 ⟨rfl, rfl⟩
    rw [hw]
    go_wp2_with fail
    go_ret
    exact ⟨_, _, rfl, Sl.litg (by rfl) rfl (by omega), (Kept.refl _).alloc _⟩
  by_cases k3 : v < 65536
  · by_cases k4 : v < 55296 ∨ 57343 < v
    · have hw : widthF v = 3 := by unfold widthF; rw [if_neg (by omega), if_neg k1, if_neg k2, if_pos k3]
      rw [encF_three (by omega) k3 k4]
      go_enter Try.func69, Try.ntmps69
      go_wp2_with fail
      refine (rwidth_any v w).mono ?_
      rintro e w1 ⟨rfl, rfl⟩
      rw [hw]
      go_wp2_with fail
      go_ret
      exact ⟨_, _, rfl, Sl.litg (by rfl) rfl (by omega), (Kept.refl _).alloc _⟩
    · have hw : widthF v = 0 := by unfold widthF; rw [if_pos (by omega)]
      rw [encF_none (by omega)]
      go_enter Try.func69, Try.ntmps69
      go_wp2_with fail
      refine (rwidth_any v w).mono ?_
      rintro e w1 ⟨rfl, rfl⟩
      rw [hw]
      go_wp2_with fail
      go_ret
      exact ⟨none, 0, rfl, Sl.nil_, Kept.refl _⟩
  · have hw : widthF v = 4 := by unfold widthF; rw [if_neg (by omega), if_neg k1, if_neg k2, if_neg k3]
    rw [encF_four (by omega) h1]
    go_enter Try.func69, Try.ntmps69
    go_wp2_with fail
    refine (rwidth_any v w).mono ?_
    rintro e w1 ⟨rfl, rfl⟩
    rw [hw]
    go_wp2_with fail
    go_ret
    exact ⟨_, _, rfl, Sl.litg (by rfl) rfl (by omega), (Kept.refl _).alloc _⟩

theorem appT_bytes : AppT Try.prog 89 5 1 := appT_mk (z := .int .u8 0) (bytes := 1) Try.underlying89 (by kernel_rfl) rfl (by omega) (by omega)
/-- The bytes that lie ahead of a number of n bytes. -/
def leadN (n : Nat) : Int := if n = 2 then 192 else if n = 3 then 224 else if n = 4 then 240 else 0
/-- The number that the first i of n bytes tell. -/
def accF (n : Nat) (B : List Int) : Nat → Int
  | 0 => 0
  | 1 => B.getD 0 0 - leadN n
  | i + 2 => 64 * accF n B (i + 1) + B.getD (i + 1) 0 - 128
theorem accF_num {n : Nat} {B : List Int} (h1 : 1 ≤ n) (h4 : n ≤ 4) : accF n B n = numF n (B.getD 0 0) (B.getD 1 0) (B.getD 2 0) (B.getD 3 0) := by
  rcases (show n = 1 ∨ n = 2 ∨ n = 3 ∨ n = 4 by omega) with rfl | rfl | rfl | rfl
  · simp [accF, numF, leadN]
  · simp [accF, numF, leadN]
  · simp [accF, numF, leadN]
  · simp [accF, numF, leadN]
theorem accF_bd {n : Nat} {B : List Int} (hb : ∀ x ∈ B, 0 ≤ x ∧ x ≤ 255) : ∀ i, i ≤ 4 → -300000000 ≤ accF n B i ∧ accF n B i ≤ 300000000 := by
  have hl : 0 ≤ leadN n ∧ leadN n ≤ 240 := by
    unfold leadN
    (repeat' split) <;> omega
  have g := getD_bd hb
  have s1 : -240 ≤ accF n B 1 ∧ accF n B 1 ≤ 255 := by
    have := g 0
    show -240 ≤ B.getD 0 0 - leadN n ∧ B.getD 0 0 - leadN n ≤ 255
    omega
  have s2 : accF n B 2 = 64 * accF n B 1 + B.getD 1 0 - 128 := rfl
  have s3 : accF n B 3 = 64 * accF n B 2 + B.getD 2 0 - 128 := rfl
  have s4 : accF n B 4 = 64 * accF n B 3 + B.getD 3 0 - 128 := rfl
  have g1 := g 1
  have g2 := g 2
  have g3 := g 3
  intro i hi
  rcases (show i = 0 ∨ i = 1 ∨ i = 2 ∨ i = 3 ∨ i = 4 by omega) with rfl | rfl | rfl | rfl | rfl
  · simp [accF]
  all_goals omega

theorem lead_cell (w : World) (t : TypeId) {m : Nat} (h1 : 1 ≤ m) (h4 : m ≤ 4) : (w.alloc (.cells #[.int .i64 0, .int .i64 0, .int .i64 192, .int .i64 224, .int .i64 240] t)).cell? ⟨w.heap.size, m, none⟩ = some (.int .i64 (leadN m)) := by
  rcases (show m = 1 ∨ m = 2 ∨ m = 3 ∨ m = 4 by omega) with rfl | rfl | rfl | rfl <;> simp [leadN]
theorem leadN_bd (n : Nat) : 0 ≤ leadN n ∧ leadN n ≤ 240 := by
  unfold leadN
  (repeat' split) <;> omega
theorem accF_succ {n i : Nat} {B : List Int} (hi : 1 ≤ i) : accF n B (i + 1) = 64 * accF n B i + B.getD i 0 - 128 := by
  obtain ⟨k, rfl⟩ : ∃ k, i = k + 1 := ⟨i - 1, by omega⟩
  rfl
theorem strOfNums_inj {a b : List Int} (ha : ∀ x ∈ a, 0 ≤ x ∧ x ≤ 255) (hb : ∀ x ∈ b, 0 ≤ x ∧ x ≤ 255) (h : (strOfNums a).data.toList = (strOfNums b).data.toList) : a = b := by
  rw [strOfNums_data, strOfNums_data] at h
  have back : ∀ l : List Int, (∀ x ∈ l, 0 ≤ x ∧ x ≤ 255) → (l.map fun n => UInt8.ofNat n.toNat).map (fun u => ((u.toNat : Nat) : Int)) = l := by
    intro l hl
    rw [List.map_map]
    conv => rhs; rw [← List.map_id l]
    apply List.map_congr_left
    intro x hx
    have := hl x hx
    simp
    omega
  rw [← back a ha, ← back b hb, h]
theorem encF_bd (v : Int) : ∀ x ∈ encF v, 0 ≤ x ∧ x ≤ 255 := by
  by_cases h0 : 0 ≤ v ∧ v ≤ 1114111
  · by_cases c1 : v < 128
    · rw [encF_one h0.1 c1]
      simp
      omega
    by_cases c2 : v < 2048
    · rw [encF_two (by omega) c2]
      simp
      omega
    by_cases c3 : v < 65536
    · by_cases c4 : v < 55296 ∨ 57343 < v
      · rw [encF_three (by omega) c3 c4]
        simp
        omega
      · rw [encF_none (by omega)]
        simp
    · rw [encF_four (by omega) h0.2]
      simp
      omega
  · unfold encF widthF
    rw [if_pos (show v < 0 ∨ 1114111 < v ∨ 55296 ≤ v ∧ v ≤ 57343 by omega), if_pos rfl]
    simp
theorem str_eq {a b : List Int} (ha : ∀ x ∈ a, 0 ≤ x ∧ x ≤ 255) (hb : ∀ x ∈ b, 0 ≤ x ∧ x ≤ 255) : ((strOfNums a).toList == (strOfNums b).toList) = decide (a = b) := by
  rw [ByteArray.toList_eq, ByteArray.toList_eq, Bool.eq_iff_iff]
  simp only [beq_iff_eq, decide_eq_true_eq]
  exact ⟨strOfNums_inj ha hb, fun e => by rw [e]⟩
set_option maxRecDepth 100000 in
set_option maxHeartbeats 8000000 in
theorem first_any (A : Option Addr) (n c : Nat) (B : List Int) (w : World) (h : Sl w 1 A n c (B.map (Value.int .u8))) (hb : ∀ x ∈ B, 0 ≤ x ∧ x ≤ 255) (hn : n ≤ 1000000) :
    Calls Try.prog 62 #[.slice A n c] w fun e w' => e = .returned (.tuple #[.int .i32 (firstF B).1, .int .i64 (firstF B).2]) ∧ Kept w w' := by
  have hl := h.llen1
  by_cases h0 : n = 0
  · have hB : B = [] := List.eq_nil_of_length_eq_zero (by omega)
    subst hB h0
    go_enter Try.func62, Try.ntmps62
    go_wp2_with fail
    go_ret2
    exact ⟨rfl, Kept.refl _⟩
  have hcap := h.cap
  have hmax := h.max
  have hne : B ≠ [] := by
    intro e
    rw [e] at hl
    exact h0 hl.symm
  have hF : firstF B = firstG B 4 1 := by unfold firstF; rw [if_neg hne]
  rw [hF]
  have HL := Lib.hid hl
  have HB := Lib.hid hb
  clear hF hne hb hl
  obtain ⟨b, o, x, rfl, hx, hc0, hbw⟩ := h.oneb (k := 0) (by omega)
  rw [Nat.add_zero] at hc0
  have hx0 : B.getD 0 0 = x := by rw [List.getD_eq_getElem?_getD, hx]; rfl
  clear hx
  go_enter Try.func62, Try.ntmps62
  go_wp2_with fail
  go_loopw [5] (fun s5 wr => ∃ m : Nat, 1 ≤ m ∧ m ≤ 5 ∧ s5 = .int .i64 m ∧ Kept (w.alloc (.cells #[.int .i64 0, .int .i64 0, .int .i64 192, .int .i64 224, .int .i64 240] 3)) wr ∧ Hid (firstG B 4 1 = firstG B (5 - m) m)) (fun v _ => 5 - (intOf v).toNat)
  case atStart => exact ⟨1, Nat.le_refl _, by omega, rfl, Kept.refl _, rfl⟩
  case round =>
    obtain ⟨m, hm1, hm5, rfl, hk, hinv⟩ := hrel
    by_cases hgo : m ≤ 4 ∧ m ≤ n
    rotate_left
    · have hout : firstG B 4 1 = (-1, 1) := by
        rw [hinv.out, firstG_out (by have := HL.out; omega)]
      have HO := Lib.hid hout
      by_cases hm4 : m ≤ 4
      · have d1 : decide ((m : Int) ≤ 4) = true := by simp; omega
        have d2 : decide (m ≤ n) = false := by simp; omega
        clear hout hgo
        go_wp2_with fail
        go_ret2
        exact ⟨by rw [HO.out]; rfl, ((Kept.refl _).alloc _).trans hk⟩
      · have d1 : decide ((m : Int) ≤ 4) = false := by simp; omega
        clear hout hgo
        go_wp2_with fail
        go_ret2
        exact ⟨by rw [HO.out]; rfl, ((Kept.refl _).alloc _).trans hk⟩
    · obtain ⟨hm4, hmn⟩ := hgo
      have d1 : decide ((m : Int) ≤ 4) = true := by simp; omega
      have d2 : decide (m ≤ n) = true := by simp; omega
      have hlc := hk.cell (lead_cell w 3 hm1 hm4)
      have hxc := (((Kept.refl w).alloc _).trans hk).cell hc0
      have hx255 := getD_bd HB.out 0
      rw [hx0] at hx255
      obtain ⟨hx1, hx2⟩ := hx255
      have hld := leadN_bd m
      obtain ⟨LD, hLD⟩ : ∃ z, leadN m = z := ⟨_, rfl⟩
      rw [hLD] at hlc hld
      have HLD := Lib.hid hLD
      clear hLD
      obtain ⟨hld1, hld2⟩ := hld
      have wx : IntKind.i64.wrap (x - LD) = x - LD := IntWalk.i64_in _ (by omega)
      have l1 : (0 : Int) ≤ m := by omega
      have l2 : (m : Int) < 5 := by omega
      go_wp2_with fail
      go_quiet (fail)
      all_goals go_wp2_with fail
      have hacc1 : accF m B 1 = x - LD := by
        show B.getD 0 0 - leadN m = x - LD
        rw [hx0, HLD.out]
      go_loopw [6, 7] (fun s6 s7 wq => ∃ i : Nat, 1 ≤ i ∧ i ≤ m ∧ s7 = .int .i64 i ∧ s6 = .int .i64 (accF m B i) ∧ Kept (w.alloc (.cells #[.int .i64 0, .int .i64 0, .int .i64 192, .int .i64 224, .int .i64 240] 3)) wq) (fun _ v _ => m - (intOf v).toNat)
      case atStart => exact ⟨1, Nat.le_refl _, hm1, rfl, by rw [hacc1], by repeat (first | (with_reducible exact hk) | (with_reducible refine Kept.drewN ?_ _) | (with_reducible refine Kept.drew ?_))⟩
      case round =>
        obtain ⟨i, hi1, him, rfl, rfl, hkq⟩ := hrel
        have hab := accF_bd (n := m) HB.out i (by omega)
        obtain ⟨V, hV⟩ : ∃ V, accF m B i = V := ⟨_, rfl⟩
        rw [hV] at hab ⊢
        have HV := Lib.hid hV
        clear hV
        obtain ⟨hab1, hab2⟩ := hab
        by_cases hlt : i < m
        · obtain ⟨b2, o2, y, hA, hy, hyc, hby⟩ := (h.kept (((Kept.refl w).alloc _).trans hkq)).oneb (k := i) (by omega)
          injection hA with hA
          injection hA with hA1 hA2
          subst hA1 hA2
          have hyd : B.getD i 0 = y := by rw [List.getD_eq_getElem?_getD, hy]; rfl
          have hy255 := getD_bd HB.out i
          rw [hyd] at hy255
          obtain ⟨hy1, hy2⟩ := hy255
          have hs := accF_succ (n := m) (B := B) hi1
          rw [HV.out, hyd] at hs
          have HS := Lib.hid hs
          have wa : IntKind.i64.wrap (64 * V) = 64 * V := IntWalk.i64_in _ (by omega)
          have wb : IntKind.i64.wrap (64 * V + y) = 64 * V + y := IntWalk.i64_in _ (by omega)
          have wc' : IntKind.i64.wrap (64 * V + y - 128) = 64 * V + y - 128 := IntWalk.i64_in _ (by omega)
          have q1 : (i : Int) < n := by omega
          have q0 : (0 : Int) ≤ i := by omega
          clear hs hy hyd
          go_wp2_with fail
          go_roundw
          case rel => exact ⟨i + 1, by omega, hlt, by simp, by rw [HS.out], hkq⟩
          case measure =>
            simp [intOf]
            omega
        · obtain rfl : i = m := by omega
          have hnum : numF i (B.getD 0 0) (B.getD 1 0) (B.getD 2 0) (B.getD 3 0) = V := by rw [← accF_num hi1 hm4, HV.out]
          have HNum := Lib.hid hnum
          clear hnum
          go_wp2_with fail
          have hfit : fitsF i B = (decide (0 ≤ V) && decide (V ≤ 1114111) && decide (encF V = B.take i)) := by
            unfold fitsF
            rw [HNum.out]
          clear hx0 hacc1 hlc wx
          by_cases v0 : 0 ≤ V
          rotate_left
          · have hf2 : fitsF i B = false := by rw [hfit]; simp [v0]
            have HFit := Lib.hid hf2
            have dv : decide (0 ≤ V) = false := by simp; omega
            clear hf2 hfit
            go_region
            all_goals go_wp2_with fail
            go_roundw
            case rel =>
              refine ⟨i + 1, by omega, by omega, by simp, by repeat (first | (with_reducible exact hkq) | (with_reducible refine Kept.drewN ?_ _) | (with_reducible refine Kept.drew ?_)), ?_⟩
              unfold Hid
              rw [hinv.out, show 5 - i = (5 - (i + 1)) + 1 by omega, firstG_no hm4 (by have := HL.out; omega) HFit.out]
            case measure =>
              simp [intOf]
              omega
          by_cases v1 : V ≤ 1114111
          rotate_left
          · have hf2 : fitsF i B = false := by rw [hfit]; simp [v1]
            have HFit := Lib.hid hf2
            have dv : decide (0 ≤ V) = true := by simpa using v0
            have dv1 : decide (V ≤ 1114111) = false := by simp; omega
            clear hf2 hfit
            go_region
            all_goals go_wp2_with fail
            go_roundw
            case rel =>
              refine ⟨i + 1, by omega, by omega, by simp, by repeat (first | (with_reducible exact hkq) | (with_reducible refine Kept.drewN ?_ _) | (with_reducible refine Kept.drew ?_)), ?_⟩
              unfold Hid
              rw [hinv.out, show 5 - i = (5 - (i + 1)) + 1 by omega, firstG_no hm4 (by have := HL.out; omega) HFit.out]
            case measure =>
              simp [intOf]
              omega
          have hfit2 : fitsF i B = ((strOfNums (encF V)).toList == (strOfNums (B.take i)).toList) := by
            rw [hfit, str_eq (encF_bd V) (fun x hx => HB.out x (List.mem_of_mem_take hx))]
            simp [v0, v1]
          clear hfit
          have dv : decide (0 ≤ V) = true := by simpa using v0
          have dv1 : decide (V ≤ 1114111) = true := by simpa using v1
          have hTs := (h.kept (((Kept.refl w).alloc _).trans hkq)).to1 (m := i) (by omega)
          obtain ⟨TT, hTT⟩ : ∃ z, strOfNums (B.take i) = z := ⟨_, rfl⟩
          obtain ⟨EE, hEE⟩ : ∃ z, strOfNums (encF V) = z := ⟨_, rfl⟩
          have hcq := run_str_q (P := Try.prog) Try.underlying89 Try.underlying5 Try.underlying9 hTs TT hTT
          rw [hTT, hEE] at hfit2
          obtain ⟨bb, hbb⟩ : ∃ z, (EE.toList == TT.toList) = z := ⟨_, rfl⟩
          rw [hbb] at hfit2
          have HFit := Lib.hid hfit2
          clear hfit2
          have r1 : (0 : Int) ≤ i := by omega
          have r2 : (i : Int) ≤ c := by omega
          have hcutb := run_cut_h appT_bytes (some ⟨b, o, none⟩) n c i (by omega)
          have hcT : ∀ w', Kept wr w' → (convert 89 9 (.slice (some ⟨b, o, none⟩) i c)).run Try.prog w' = .ok (.string TT) w' := fun w' hk' => by
            have := run_str (P := Try.prog) Try.underlying89 Try.underlying5 Try.underlying9 (hTs.kept hk')
            rw [hTT] at this
            exact this
          have hcE : ∀ A5 c5 w', Sl w' 1 A5 (encF V).length c5 ((encF V).map (Value.int .u8)) → (convert 89 9 (.slice A5 (encF V).length c5)).run Try.prog w' = .ok (.string EE) w' := fun A5 c5 w' hs' => by
            have := run_str (P := Try.prog) Try.underlying89 Try.underlying5 Try.underlying9 hs'
            rw [hEE] at this
            exact this
          obtain ⟨LE, hLE⟩ : ∃ z, (encF V).length = z := ⟨_, rfl⟩
          have hrune : ∀ w', Calls Try.prog 69 #[.int .i32 V] w' fun e w'' => ∃ A5 c5, e = .returned (.slice A5 LE c5) ∧ (convert 89 9 (.slice A5 LE c5)).run Try.prog w'' = .ok (.string EE) w'' ∧ Kept w' w'' := fun w' => by
            refine (rune_any V w' v0 v1).mono ?_
            rintro e w'' ⟨A5, c5, rfl, hs5, hk5⟩
            exact ⟨A5, c5, by rw [hLE], by rw [← hLE]; exact hcE A5 c5 w'' hs5, hk5⟩
          have hc0' := hcT _ (Kept.refl _)
          have hc1' := hcT _ (Kept.refl wr).drew
          clear hcE hcq hTs hLE
          have w32 : IntKind.i32.wrap V = V := by first | exact IntWalk.i32_in _ (by omega) | (simp [IntKind.wrap, IntKind.signed, IntKind.bits]; omega)
          clear ‹((n : Int) == 0) = false›
          refine wp_region_held_drew (S := fun w' => (convert 89 9 (.slice (some ⟨b, o, none⟩) i c)).run Try.prog w' = .ok (.string TT) w' ∧ Kept wr w') (by kernel_rfl) ⟨hc1', (Kept.refl _).drew⟩ (fun hHeld => ?_)
          refine wpAnyH_take (i := 0) (oi := { dst := some 45, op := Op.move (Operand.tmp 6), type := 3, pos := "ref.go:55", after := #[], guard := none }) (v := ?vv0) rfl (by kernel_rfl) (by kernel_rfl) (by kernel_rfl) (fun _ _ _ h => h) (Or.inl ⟨by rfl, ?hy0⟩) (by assumption) ?rest0
          case hy0 => (intro wS hSw; (try dsimp only at hSw); go_simp; try (with_reducible rfl))
          try simp only [Act.put, List.setIfInBounds_toArray, List.set_cons_zero, List.set_cons_succ]
          refine wpAnyH_take (i := 1) (oi := { dst := some 46, op := Op.binOp BinOp.geq 3 (Operand.tmp 45) (Operand.const (Value.int IntKind.i64 0)) 3, type := 4, pos := "ref.go:55", after := #[{ on := 0, ground := Ground.data }], guard := none }) (v := ?vv1) rfl (by kernel_rfl) (by kernel_rfl) (by kernel_rfl) (fun _ _ _ h => h) (Or.inl ⟨by rfl, ?hy1⟩) (by assumption) ?rest1
          case hy1 => (intro wS hSw; (try dsimp only at hSw); go_simp; try (with_reducible rfl))
          try simp only [Act.put, List.setIfInBounds_toArray, List.set_cons_zero, List.set_cons_succ]
          refine wpAnyH_take (i := 2) (oi := { dst := some 47, op := Op.move (Operand.tmp 46), type := 4, pos := "ref.go:55", after := #[{ on := 1, ground := Ground.data }], guard := none }) (v := ?vv2) rfl (by kernel_rfl) (by kernel_rfl) (by kernel_rfl) (fun _ _ _ h => h) (Or.inl ⟨by rfl, ?hy2⟩) (by assumption) ?rest2
          case hy2 => (intro wS hSw; (try dsimp only at hSw); go_simp; try (with_reducible rfl))
          try simp only [Act.put, List.setIfInBounds_toArray, List.set_cons_zero, List.set_cons_succ]
          refine wpAnyH_take (i := 3) (oi := { dst := some 48, op := Op.move (Operand.tmp 6), type := 3, pos := "ref.go:55", after := #[{ on := 2, ground := Ground.guard }], guard := some (2, true) }) (v := ?vv3) rfl (by kernel_rfl) (by kernel_rfl) (by kernel_rfl) (fun _ _ _ h => h) (Or.inl ⟨by rfl, ?hy3⟩) (by assumption) ?rest3
          case hy3 => (intro wS hSw; (try dsimp only at hSw); go_simp; try (with_reducible rfl))
          try simp only [Act.put, List.setIfInBounds_toArray, List.set_cons_zero, List.set_cons_succ]
          refine wpAnyH_take (i := 4) (oi := { dst := some 49, op := Op.binOp BinOp.leq 3 (Operand.tmp 48) (Operand.const (Value.int IntKind.i64 1114111)) 3, type := 4, pos := "ref.go:55", after := #[{ on := 3, ground := Ground.data }, { on := 2, ground := Ground.guard }], guard := some (2, true) }) (v := ?vv4) rfl (by kernel_rfl) (by kernel_rfl) (by kernel_rfl) (fun _ _ _ h => h) (Or.inl ⟨by rfl, ?hy4⟩) (by assumption) ?rest4
          case hy4 => (intro wS hSw; (try dsimp only at hSw); go_simp; try (with_reducible rfl))
          try simp only [Act.put, List.setIfInBounds_toArray, List.set_cons_zero, List.set_cons_succ]
          refine wpAnyH_take (i := 5) (oi := { dst := some 50, op := Op.pick (Operand.tmp 47) (Operand.tmp 49) (Operand.const (Value.bool false)), type := 4, pos := "ref.go:55", after := #[{ on := 2, ground := Ground.data }, { on := 4, ground := Ground.data }], guard := none }) (v := ?vv5) rfl (by kernel_rfl) (by kernel_rfl) (by kernel_rfl) (fun _ _ _ h => h) (Or.inl ⟨by rfl, ?hy5⟩) (by assumption) ?rest5
          case hy5 => (intro wS hSw; (try dsimp only at hSw); go_simp; try (with_reducible rfl))
          try simp only [Act.put, List.setIfInBounds_toArray, List.set_cons_zero, List.set_cons_succ]
          refine wpAnyH_take (i := 6) (oi := { dst := some 51, op := Op.move (Operand.tmp 50), type := 4, pos := "ref.go:55", after := #[{ on := 5, ground := Ground.data }, { on := 2, ground := Ground.chain }], guard := none }) (v := ?vv6) rfl (by kernel_rfl) (by kernel_rfl) (by kernel_rfl) (fun _ _ _ h => h) (Or.inl ⟨by rfl, ?hy6⟩) (by assumption) ?rest6
          case hy6 => (intro wS hSw; (try dsimp only at hSw); go_simp; try (with_reducible rfl))
          try simp only [Act.put, List.setIfInBounds_toArray, List.set_cons_zero, List.set_cons_succ]
          refine wpAnyH_take (i := 7) (oi := { dst := some 52, op := Op.move (Operand.tmp 6), type := 3, pos := "ref.go:55", after := #[{ on := 6, ground := Ground.guard }], guard := some (6, true) }) (v := ?vv7) rfl (by kernel_rfl) (by kernel_rfl) (by kernel_rfl) (fun _ _ _ h => h) (Or.inl ⟨by rfl, ?hy7⟩) (by assumption) ?rest7
          case hy7 => (intro wS hSw; (try dsimp only at hSw); go_simp; try (with_reducible rfl))
          try simp only [Act.put, List.setIfInBounds_toArray, List.set_cons_zero, List.set_cons_succ]
          refine wpAnyH_take (i := 8) (oi := { dst := some 53, op := Op.convert 3 21 (Operand.tmp 52), type := 21, pos := "ref.go:55", after := #[{ on := 7, ground := Ground.data }, { on := 6, ground := Ground.guard }], guard := some (6, true) }) (v := ?vv8) rfl (by kernel_rfl) (by kernel_rfl) (by kernel_rfl) (fun _ _ _ h => h) (Or.inl ⟨by rfl, ?hy8⟩) (by assumption) ?rest8
          case hy8 => (intro wS hSw; (try dsimp only at hSw); go_simp; try (with_reducible rfl))
          try simp only [Act.put, List.setIfInBounds_toArray, List.set_cons_zero, List.set_cons_succ]
          refine wpAnyH_take (i := 11) (oi := { dst := some 56, op := Op.move (Operand.tmp 0), type := 89, pos := "ref.go:55", after := #[{ on := 6, ground := Ground.guard }], guard := some (6, true) }) (v := ?vv11) rfl (by kernel_rfl) (by kernel_rfl) (by kernel_rfl) (fun _ _ _ h => h) (Or.inl ⟨by rfl, ?hy11⟩) (by assumption) ?rest11
          case hy11 => (intro wS hSw; (try dsimp only at hSw); go_simp; try (with_reducible rfl))
          try simp only [Act.put, List.setIfInBounds_toArray, List.set_cons_zero, List.set_cons_succ]
          refine wpAnyH_take (i := 12) (oi := { dst := some 57, op := Op.move (Operand.tmp 5), type := 3, pos := "ref.go:55", after := #[{ on := 6, ground := Ground.guard }], guard := some (6, true) }) (v := ?vv12) rfl (by kernel_rfl) (by kernel_rfl) (by kernel_rfl) (fun _ _ _ h => h) (Or.inl ⟨by rfl, ?hy12⟩) (by assumption) ?rest12
          case hy12 => (intro wS hSw; (try dsimp only at hSw); go_simp; try (with_reducible rfl))
          try simp only [Act.put, List.setIfInBounds_toArray, List.set_cons_zero, List.set_cons_succ]
          refine wpAnyH_take (i := 13) (oi := { dst := some 58, op := Op.slice 89 (Operand.tmp 56) none (some (Operand.tmp 57)) none, type := 89, pos := "ref.go:55", after := #[{ on := 11, ground := Ground.data }, { on := 12, ground := Ground.data }, { on := 6, ground := Ground.guard }], guard := some (6, true) }) (v := ?vv13) rfl (by kernel_rfl) (by kernel_rfl) (by kernel_rfl) (fun _ _ _ h => h) (Or.inl ⟨by rfl, ?hy13⟩) (by assumption) ?rest13
          case hy13 => (intro wS hSw; (try dsimp only at hSw); go_simp; try (with_reducible rfl))
          try simp only [Act.put, List.setIfInBounds_toArray, List.set_cons_zero, List.set_cons_succ]
          refine wpAnyH_take (i := 14) (oi := { dst := some 59, op := Op.convert 89 9 (Operand.tmp 58), type := 9, pos := "ref.go:55", after := #[{ on := 13, ground := Ground.data }, { on := 6, ground := Ground.guard }], guard := some (6, true) }) (v := ?vv14) rfl (by kernel_rfl) (by kernel_rfl) (by kernel_rfl) (fun _ _ _ h => h) (Or.inl ⟨by rfl, ?hy14⟩) (by assumption) ?rest14
          case hy14 => (intro wS hSw; (try dsimp only at hSw); go_simp; try (with_reducible rfl))
          try simp only [Act.put, List.setIfInBounds_toArray, List.set_cons_zero, List.set_cons_succ]
          refine wpAnyH_ready (rs := [9]) (by kernel_rfl) (by simp) ?_
          refine AllReadyH.cons (o := { dst := some 54, op := Op.call { callee := Callee.value (Operand.func 69), args := #[Operand.tmp 53], argTypes := #[21] }, type := 89, pos := "ref.go:55", after := #[{ on := 8, ground := Ground.data }, { on := 6, ground := Ground.chain }, { on := 6, ground := Ground.guard }], guard := some (6, true) }) rfl (fun K hK => ?step9) ?more9
          case more9 => exact AllReadyH.nil
          go_simp
          go_at_call 69
          refine (hrune _).mono ?_
          rintro e w5 ⟨A5, c5, rfl, hcv5, hk5⟩
          have hkw5 := (show Kept wr wr.drew from (Kept.refl wr).drew).trans hk5
          have hcw5 := hcT _ hkw5
          go_wp2_with fail
          refine hK.out _ _ ⟨hcw5, hkw5⟩ (fun hHeld2 => ?_)
          clear hHeld
          clear hK K
          try simp only [Act.put, List.setIfInBounds_toArray, List.set_cons_zero, List.set_cons_succ]
          refine wpAnyH_ready (rs := [10]) (by kernel_rfl) (by simp) ?_
          refine AllReadyH.cons (o := { dst := some 55, op := Op.convert 89 9 (Operand.tmp 54), type := 9, pos := "ref.go:55", after := #[{ on := 9, ground := Ground.data }, { on := 6, ground := Ground.guard }], guard := some (6, true) }) rfl (fun K hK => ?step10) ?more10
          case more10 => exact AllReadyH.nil
          go_simp
          refine hK.out _ _ hHeld2 (fun hHeld3 => ?_)
          clear hK K
          try simp only [Act.put, List.setIfInBounds_toArray, List.set_cons_zero, List.set_cons_succ]
          refine wpAnyH_take (i := 15) (oi := { dst := some 60, op := Op.binOp BinOp.eql 9 (Operand.tmp 55) (Operand.tmp 59) 9, type := 4, pos := "ref.go:55", after := #[{ on := 10, ground := Ground.data }, { on := 14, ground := Ground.data }, { on := 6, ground := Ground.guard }], guard := some (6, true) }) (v := ?vv15) rfl (by kernel_rfl) (by kernel_rfl) (by kernel_rfl) (fun _ _ _ h => h) (Or.inl ⟨by rfl, ?hy15⟩) (by assumption) ?rest15
          case hy15 => (intro wS hSw; (try dsimp only at hSw); go_simp; try (with_reducible rfl))
          try simp only [Act.put, List.setIfInBounds_toArray, List.set_cons_zero, List.set_cons_succ]
          refine wpAnyH_take (i := 16) (oi := { dst := some 61, op := Op.pick (Operand.tmp 51) (Operand.tmp 60) (Operand.const (Value.bool false)), type := 4, pos := "ref.go:55", after := #[{ on := 6, ground := Ground.data }, { on := 15, ground := Ground.data }], guard := none }) (v := ?vv16) rfl (by kernel_rfl) (by kernel_rfl) (by kernel_rfl) (fun _ _ _ h => h) (Or.inl ⟨by rfl, ?hy16⟩) (by assumption) ?rest16
          case hy16 => (intro wS hSw; (try dsimp only at hSw); go_simp; try (with_reducible rfl))
          try simp only [Act.put, List.setIfInBounds_toArray, List.set_cons_zero, List.set_cons_succ]
          refine wpAnyH_done (by kernel_rfl) ?_ _
          have hkW := hHeld3.2
          cases bb
          · go_wp2_with fail
            go_roundw
            case rel =>
              refine ⟨i + 1, by omega, by omega, by simp, hkq.trans hkW, ?_⟩
              unfold Hid
              rw [hinv.out, show 5 - i = (5 - (i + 1)) + 1 by omega, firstG_no hm4 (by have := HL.out; omega) HFit.out]
            case measure =>
              simp [intOf]
              omega
          · have hF : firstG B 4 1 = (V, i) := by
              rw [hinv.out, show 5 - i = (4 - i) + 1 by omega, firstG_yes hm4 (by have := HL.out; omega) HFit.out, HNum.out]
            have HF := Lib.hid hF
            clear hF
            go_wp2_with fail
            go_ret2
            exact ⟨by rw [HF.out]; rfl, (((Kept.refl _).alloc _).trans hkq).trans hkW⟩
end Go.Proofs.Ytmicmmbdkmmnoaa
