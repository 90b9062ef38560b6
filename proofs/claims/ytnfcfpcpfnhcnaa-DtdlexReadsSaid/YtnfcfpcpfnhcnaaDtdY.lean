/- Layer 9, the document's Parts; the law DtdlexParts: walked. Printed by gen_dtdy.py. -/
import Derived.Test.YtnfcfpcpfnhcnaaDtdX
import Derived.Test.YtnfcfpcpfnhcnaaDtdV
import Derived.Test.YtnfcfpcpfnhcnaaDtdC
import Derived.Test.YtnfcfpcpfnhcnaaDtdW
namespace Go.Proofs.Ytnfcfpcpfnhcnaa
open Go.RowKit
attribute [local go_sem ↓] Go.wp_at_zero Go.wp_at_succ

theorem own_far {w : World} {base : Nat} {e : TypeId} {size n g : Nat} {v : Value} {xs : List Value} (h : w.ownsRow base e size v n xs) (hne : some g ≠ v.ownBlock) (i : Nat) (u : Value) : (w.setCell ⟨g, i, none⟩ u).ownsRow base e size v n xs :=
  own_grown h (grown_st w g i u) (fun e => hne e.symm)
set_option maxRecDepth 8000 in
set_option maxHeartbeats 8000000 in
theorem rparts_any (A : Option Addr) (n c : Nat) (l : List Int) (f t : Int) (w : World) (h : Sl w 1 A n c (l.map (Value.int .i32))) (hn : n ≤ 1000000) (hr : Rn l) :
    Calls Try.prog 10 #[.slice A n c, .int .i64 f, .int .i64 t] w fun e w' => PrtsOf (partL l f t) w e w' := by
  have hcap := h.cap
  have hmax := h.max
  have hl := h.llen1
  have hin := fun w' => rmay_any A n c f t w'
  have HWW := Lib.hid (fun w' (kk : Kept w w') => rwords_any A n c l f t w' (h.kept kk) hn hr)
  by_cases hbad : f < 0 ∨ t < f ∨ (l.length : Int) < t
  · have HV : Hid (partL l f t = rowL wordF l f t) := by unfold Hid partL rowL; rw [if_pos hbad, if_pos hbad]
    rw [hl] at hbad
    rw [show decide (0 ≤ f ∧ f ≤ t ∧ t ≤ n) = false from decide_eq_false (by omega)] at hin
    have HI := Lib.hid hin
    clear hbad hin hr
    go_enter Try.func10, Try.ntmps10
    go_wp2_with fail
    refine (HI.out _).mono ?_
    rintro e w1 ⟨rfl, rfl⟩
    go_wp2_with fail
    refine (HWW.out _ (Kept.refl _)).mono ?_
    rintro e w2 ⟨A', m, c', hm, rfl, hS, k2⟩
    have HM := Lib.hid hm
    clear hm
    go_wp2_with fail
    go_ret
    rw [HV.out]
    exact ⟨A', m, c', HM.out, rfl, hS, k2⟩
  · have hv : partL l f t = if startsF dts ((l.take t.toNat).drop f.toNat) then ⟨1, f, f + 9⟩ :: partX (f + 9) ((l.take t.toNat).drop (f.toNat + 9)) false else rowL wordF l f t := by
      unfold partL rowL
      rw [if_neg hbad, if_neg hbad]
    rw [hl] at hbad
    rw [show decide (0 ≤ f ∧ f ≤ t ∧ t ≤ n) = true from decide_eq_true (by omega)] at hin
    have HI := Lib.hid hin
    clear hin
    obtain ⟨F, rfl⟩ := Int.eq_ofNat_of_zero_le (show 0 ≤ f by omega)
    obtain ⟨T, rfl⟩ := Int.eq_ofNat_of_zero_le (show 0 ≤ t by omega)
    rw [Int.toNat_natCast, Int.toNat_natCast] at hv
    have hFT : F ≤ T := by omega
    have hTn : T ≤ n := by omega
    have hs := h.to1 (m := T) hTn
    have hsl : (l.take T).length = T := by rw [List.length_take, hl]; omega
    have hcut : ∀ wv : World, (Instr.slice 22 (.slice A n c) none (some (.int .i64 T)) none).run Try.prog wv = .ok (.slice A T c) wv := run_cut_h appT_runes A n c T (by omega)
    have HRN := Lib.hid (hr.take T)
    obtain ⟨RW, hRW⟩ : ∃ RW, rowL wordF l F T = RW := ⟨_, rfl⟩
    rw [hRW] at hv HWW
    obtain ⟨R, hR⟩ : ∃ R, partL l F T = R := ⟨_, rfl⟩
    rw [hR] at hv ⊢
    clear hR hRW hbad hl h hr
    generalize l.take T = s at hs hsl hv HRN
    have hlT : T ≤ 1000000 := by omega
    have HST := Lib.hid (rstarts_any A T c s F ⟨#[60, 33, 68, 79, 67, 84, 89, 80, 69]⟩ w hs (by decide) (by decide) hlT (by omega) (by decide) HRN.out)
    rw [show strI ⟨#[60, 33, 68, 79, 67, 84, 89, 80, 69]⟩ = dts from rfl] at HST
    have h9 := startsF_len (p := dts) (s := s.drop F)
    rw [List.length_drop, hsl] at h9
    have HSL := Lib.hid hsl
    obtain ⟨b, hb⟩ : ∃ b, startsF dts (s.drop F) = b := ⟨_, rfl⟩
    rw [hb] at HST hv h9
    clear hb hsl
    cases b
    · have HV := Lib.hid (show R = RW by simpa using hv)
      clear hv h9
      go_enter Try.func10, Try.ntmps10
      go_wp2_with fail
      refine (HI.out _).mono ?_
      rintro e w1 ⟨rfl, rfl⟩
      go_wp2_with fail
      refine HST.out.mono ?_
      rintro e w1 ⟨rfl, k1⟩
      go_wp2_with fail
      refine (HWW.out _ k1).mono ?_
      rintro e w2 ⟨A', m, c', hm, rfl, hS, k2⟩
      have HM := Lib.hid hm
      clear hm
      go_wp2_with fail
      go_ret
      rw [HV.out]
      exact ⟨A', m, c', HM.out, rfl, hS, k1.trans k2⟩
    · have hF9 : F + 9 ≤ T := by
        have := h9 rfl
        simp [dts] at this
        omega
      have HV := Lib.hid (show R = ⟨1, (F : Int), (F : Int) + 9⟩ :: partX ((F + 9 : Nat) : Int) (s.drop (F + 9)) false by
        rw [hv, if_pos rfl]
        simp)
      have ws9 : IntKind.i64.wrap ((F : Int) + 9) = (F : Int) + 9 := IntWalk.i64_in _ (by omega)
      clear hv h9 HWW
      go_enter Try.func10, Try.ntmps10
      go_wp2_with fail
      refine (HI.out _).mono ?_
      rintro e w1 ⟨rfl, rfl⟩
      go_wp2_with fail
      refine HST.out.mono ?_
      rintro e w1 ⟨rfl, k1⟩
      go_upto_region 5 with fail
      have own0 : (w1.alloc (.cells #[.int .i64 1, .int .i64 F, .int .i64 ((F : Int) + 9)] 36)).ownsRow w.heap.size 36 3 (.slice (some ⟨w1.heap.size, 0, none⟩) 1 1) 1 ([(⟨1, (F : Int), (F : Int) + 9⟩ : Prt)].flatMap prtC) := own_lit rfl (by omega) k1.size
      have k2 : Kept w (w1.alloc (.cells #[.int .i64 1, .int .i64 F, .int .i64 ((F : Int) + 9)] 36)) := k1.alloc _
      generalize w1.alloc (.cells #[.int .i64 1, .int .i64 F, .int .i64 ((F : Int) + 9)] 36) = w2 at own0 k2 ⊢
      generalize w1.heap.size = g0 at own0 ⊢
      go_wp2_with fail
      go_loopw [7, 8, 9] (fun v op i wr => ∃ (k : Nat) (P : List Prt) (q : Bool), F + 9 ≤ k ∧ k ≤ T ∧ i = .int .i64 k ∧ op = .bool q ∧ wr.ownsRow w.heap.size 36 3 v P.length (P.flatMap prtC) ∧ Kept w wr ∧ 1 ≤ P.length ∧ P.length ≤ k ∧
        Hid (R = P ++ partX k (s.drop k) q)) (fun _ _ i _ => T - (intOf i).toNat)
      case atStart => exact ⟨F + 9, [⟨1, (F : Int), (F : Int) + 9⟩], false, Nat.le_refl _, hF9, by go_num, rfl, own0, k2, Nat.le_refl _, by simp, HV.out⟩
      case round =>
        obtain ⟨k, P, q, hFk, hkT, rfl, rfl, hown, hkept, hP1, hPk, hinv⟩ := hrel
        by_cases hlt : k < T
        rotate_left
        · obtain rfl : k = T := by omega
          have HE : Hid (R = P) := by
            unfold Hid
            rw [hinv.out, List.drop_eq_nil_of_le (by rw [HSL.out]; omega), partX_nil, List.append_nil]
          obtain ⟨A', c', rfl, hV⟩ := Sl.of_own hown
          go_wp2_with fail
          go_ret
          rw [HE.out]
          exact ⟨A', P.length, c', rfl, rfl, hV, hkept⟩
        have hsw := hs.kept hkept
        obtain ⟨bb, oo, x, rfl, hx, hc, hbb⟩ := hsw.oneb hlt
        have hne : s.drop k ≠ [] := by rw [drop_get hx]; simp
        have hx0 : (s.drop k)[0]? = some x := by rw [List.getElem?_drop]; exact hx
        have hbd := wordF_bd (s.drop k) hne
        have hwd := rword_any (some ⟨bb, oo, none⟩) T c s k wr hsw hlT hlt
        have hcl := fun w' (kk : Kept w w') => rclosing_any (some ⟨bb, oo, none⟩) T c s (k + 1) w' (hs.kept kk) hlT (by omega) HRN.out
        obtain ⟨E, hE, hE1, hE2, hE3, hE4⟩ := subP_eq s k (by rw [HSL.out]; exact hlt)
        obtain ⟨hf1, _, _⟩ := subP_facts s k (by rw [HSL.out]; exact hlt)
        rw [hE] at hcl
        rw [HSL.out] at hE2 hE3 hE4
        rw [List.length_drop, HSL.out] at hbd
        have h62 : (s.drop k = [62]) = (x = 62 ∧ k + 1 = T) := by
          rw [drop_get hx]
          have hl1 : (s.drop (k + 1)).length = T - (k + 1) := by rw [List.length_drop, HSL.out]
          apply propext
          constructor
          · intro e
            injection e with e1 e2
            rw [e2] at hl1
            simp at hl1
            exact ⟨e1, by omega⟩
          · rintro ⟨rfl, e2⟩
            rw [List.eq_nil_of_length_eq_zero (l := s.drop (k + 1)) (by omega)]
        have hsubX := fun e : x = 91 => partX_sub (k : Int) (s := s.drop k) (by rw [hx0, e])
        have hwordX := fun e => partX_word (k : Int) (s := s.drop k) (op := q) hne e
        rw [hx0] at hwordX
        simp only [Option.some.injEq, h62] at hwordX
        rw [List.drop_drop] at hsubX hwordX
        obtain ⟨K, N, hKN⟩ : ∃ K N, wordF (s.drop k) = (K, N) := ⟨_, _, rfl⟩
        rw [hKN] at hbd hwd hwordX
        dsimp only at hbd hwd hwordX
        obtain ⟨hb1, hb2⟩ := hbd
        have HWD := Lib.hid hwd
        have HCL := Lib.hid hcl
        have HWX := Lib.hid hwordX
        have HSX := Lib.hid hsubX
        have HSP := Lib.hid (show _ ∧ _ from ⟨hE3, hE4⟩)
        have ws1 : IntKind.i64.wrap ((k : Int) + 1) = ((k + 1 : Nat) : Int) := by rw [IntWalk.i64_in _ (by omega)]; omega
        clear hwd hcl hwordX hsubX hKN hx hx0 hne h62 hsw hE hE3 hE4
        by_cases h91 : x = 91
        · subst h91
          cases q
          · have HE := Lib.hid (show R = (P ++ subP k (s.drop k)) ++ partX ((k + subN (s.drop k) : Nat) : Int) (s.drop (k + subN (s.drop k))) true by
              rw [hinv.out, HSX.out rfl, List.append_assoc]
              simp)
            have hN : k + subN (s.drop k) = if E < T then E + 1 else E := HSP.out.2
            have hSPe := HSP.out.1
            generalize subN (s.drop k) = S at hN HE hf1
            generalize subP k (s.drop k) = SP at hSPe HE hf1
            have HF1 := Lib.hid (show _ ∧ _ from ⟨hSPe, hf1⟩)
            clear hSPe hf1 HSX HWX hinv HSP
            have wsE : IntKind.i64.wrap ((E : Int) + 1) = ((E + 1 : Nat) : Int) := by rw [IntWalk.i64_in _ (by omega)]; omega
            by_cases p1 : k + 1 < E
            · have q1 : ((k + 1 : Nat) : Int) < (E : Int) := by omega
              have q1' : (k : Int) + 1 < (E : Int) := by omega
              by_cases p2 : E < T
              · have q2 : (E : Int) < T := by omega
                rw [if_pos p2] at hN
                have hSE := HF1.out.1
                rw [if_pos p1, if_pos p2] at hSE
                have HSE := Lib.hid hSE
                have hlen : SP.length ≤ S := HF1.out.2
                have hl1 : SP.length = 3 := by rw [hSE]; rfl
                clear hSE
                go_wp2_with fail
                refine HWD.out.mono ?_
                rintro e w3 ⟨rfl, k3⟩
                have hk3 := hkept.trans k3
                have ow3 := own_kept hown k3
                have hc3 := k3.cell hc
                have hneo := ne_own ow3
                go_upto_region 9 with fail
                have B4 : Blk (w3.alloc (.cells #[.int .i64 K, .int .i64 k, .int .i64 ((k : Int) + N)] 36)) w3.heap.size #[.int .i64 K, .int .i64 k, .int .i64 ((k : Int) + N)] 36 := Blk.new w3 _ _
                have ow4 := ow3.alloc (.cells #[.int .i64 K, .int .i64 k, .int .i64 ((k : Int) + N)] 36)
                have kk4 : Kept w3 (w3.alloc (.cells #[.int .i64 K, .int .i64 k, .int .i64 ((k : Int) + N)] 36)) := (Kept.refl w3).alloc _
                change Code.wp _ _ _ _ (w3.alloc (.cells #[.int .i64 K, .int .i64 k, .int .i64 ((k : Int) + N)] 36))
                generalize w3.alloc (.cells #[.int .i64 K, .int .i64 k, .int .i64 ((k : Int) + N)] 36) = w4 at B4 ow4 kk4 ⊢
                have hk4 := hk3.trans kk4
                have hc4 := kk4.cell hc3
                have hb4 := World.block_lt_of_cell? _ _ hc4
                have hsz3 := hk3.size
                have hb3 : bb < w3.heap.size := World.block_lt_of_cell? _ _ hc3
                generalize w3.heap.size = g2 at B4 hneo hsz3 hb3 ⊢
                clear hc3 ow3
                go_upto_region 14 with (at_builtin; refine wpList_push w (by rfl) _ _ (by rfl) appT_rprt (by rfl) ow4 hk4 (by rfl) ?_ ?_; (exact ⟨by simp, rfl, rfl, by omega⟩); intro v5 w5 ow5 hk5 hgr5 _)
                have kk5 := ((Kept.refl w4).alloc (.cells #[.int .i64 5, .int .i64 k, .int .i64 ((k + 1 : Nat) : Int)] 36))
                have hs5 := hs.kept hk5
                go_wp2_with fail
                refine (HCL.out _ hk5).mono ?_
                rintro e w6 ⟨rfl, k6⟩
                have ow6 := own_kept ow5 k6
                have hk6 := hk5.trans k6
                go_upto_region 17 with (at_builtin; refine wpList_push w (by rfl) _ _ (by rfl) appT_rprt (by rfl) ow6 hk6 (by rfl) ?_ ?_; (exact ⟨by simp, rfl, rfl, by omega⟩); intro v7 w7 ow7 hk7 _ _)
                go_wp2_with (at_builtin; refine wpList_push w (by rfl) _ _ (by rfl) appT_rprt (by rfl) ow7 hk7 (by rfl) ?_ ?_; (exact ⟨by simp, rfl, rfl, by omega⟩); intro v8 w8 ow8 hk8 _ _)
                go_roundw
                case rel =>
                  refine ⟨k + S, P ++ SP, true, by omega, by omega, by first | go_num | (rw [hN]; go_num) | (rw [hN]), rfl, ?_, hk8, by rw [List.length_append]; omega, by rw [List.length_append]; omega, HE⟩
                  rw [List.length_append, hl1, List.flatMap_append, HSE.out]
                  first | simpa [prtC] using ow8 | exact ow8
                case measure => simp [intOf]; omega
              · have q2 : ¬ (E : Int) < T := by omega
                rw [if_neg p2] at hN
                have hSE := HF1.out.1
                rw [if_pos p1, if_neg p2] at hSE
                have HSE := Lib.hid hSE
                have hlen : SP.length ≤ S := HF1.out.2
                have hl1 : SP.length = 2 := by rw [hSE]; rfl
                clear hSE
                go_wp2_with fail
                refine HWD.out.mono ?_
                rintro e w3 ⟨rfl, k3⟩
                have hk3 := hkept.trans k3
                have ow3 := own_kept hown k3
                have hc3 := k3.cell hc
                have hneo := ne_own ow3
                go_upto_region 9 with fail
                have B4 : Blk (w3.alloc (.cells #[.int .i64 K, .int .i64 k, .int .i64 ((k : Int) + N)] 36)) w3.heap.size #[.int .i64 K, .int .i64 k, .int .i64 ((k : Int) + N)] 36 := Blk.new w3 _ _
                have ow4 := ow3.alloc (.cells #[.int .i64 K, .int .i64 k, .int .i64 ((k : Int) + N)] 36)
                have kk4 : Kept w3 (w3.alloc (.cells #[.int .i64 K, .int .i64 k, .int .i64 ((k : Int) + N)] 36)) := (Kept.refl w3).alloc _
                change Code.wp _ _ _ _ (w3.alloc (.cells #[.int .i64 K, .int .i64 k, .int .i64 ((k : Int) + N)] 36))
                generalize w3.alloc (.cells #[.int .i64 K, .int .i64 k, .int .i64 ((k : Int) + N)] 36) = w4 at B4 ow4 kk4 ⊢
                have hk4 := hk3.trans kk4
                have hc4 := kk4.cell hc3
                have hb4 := World.block_lt_of_cell? _ _ hc4
                have hsz3 := hk3.size
                have hb3 : bb < w3.heap.size := World.block_lt_of_cell? _ _ hc3
                generalize w3.heap.size = g2 at B4 hneo hsz3 hb3 ⊢
                clear hc3 ow3
                go_upto_region 14 with (at_builtin; refine wpList_push w (by rfl) _ _ (by rfl) appT_rprt (by rfl) ow4 hk4 (by rfl) ?_ ?_; (exact ⟨by simp, rfl, rfl, by omega⟩); intro v5 w5 ow5 hk5 hgr5 _)
                have kk5 := ((Kept.refl w4).alloc (.cells #[.int .i64 5, .int .i64 k, .int .i64 ((k + 1 : Nat) : Int)] 36))
                have hs5 := hs.kept hk5
                go_wp2_with fail
                refine (HCL.out _ hk5).mono ?_
                rintro e w6 ⟨rfl, k6⟩
                have ow6 := own_kept ow5 k6
                have hk6 := hk5.trans k6
                go_wp2_with (at_builtin; refine wpList_push w (by rfl) _ _ (by rfl) appT_rprt (by rfl) ow6 hk6 (by rfl) ?_ ?_; (exact ⟨by simp, rfl, rfl, by omega⟩); intro v7 w7 ow7 hk7 _ _)
                go_roundw
                case rel =>
                  refine ⟨k + S, P ++ SP, true, by omega, by omega, by first | go_num | (rw [hN]; go_num) | (rw [hN]), rfl, ?_, hk7, by rw [List.length_append]; omega, by rw [List.length_append]; omega, HE⟩
                  rw [List.length_append, hl1, List.flatMap_append, HSE.out]
                  first | simpa [prtC] using ow7 | exact ow7
                case measure => simp [intOf]; omega
            · have q1 : ¬ ((k + 1 : Nat) : Int) < (E : Int) := by omega
              have q1' : ¬ (k : Int) + 1 < (E : Int) := by omega
              by_cases p2 : E < T
              · have q2 : (E : Int) < T := by omega
                rw [if_pos p2] at hN
                have hSE := HF1.out.1
                rw [if_neg p1, if_pos p2] at hSE
                have HSE := Lib.hid hSE
                have hlen : SP.length ≤ S := HF1.out.2
                have hl1 : SP.length = 2 := by rw [hSE]; rfl
                clear hSE
                go_wp2_with fail
                refine HWD.out.mono ?_
                rintro e w3 ⟨rfl, k3⟩
                have hk3 := hkept.trans k3
                have ow3 := own_kept hown k3
                have hc3 := k3.cell hc
                have hneo := ne_own ow3
                go_upto_region 9 with fail
                have B4 : Blk (w3.alloc (.cells #[.int .i64 K, .int .i64 k, .int .i64 ((k : Int) + N)] 36)) w3.heap.size #[.int .i64 K, .int .i64 k, .int .i64 ((k : Int) + N)] 36 := Blk.new w3 _ _
                have ow4 := ow3.alloc (.cells #[.int .i64 K, .int .i64 k, .int .i64 ((k : Int) + N)] 36)
                have kk4 : Kept w3 (w3.alloc (.cells #[.int .i64 K, .int .i64 k, .int .i64 ((k : Int) + N)] 36)) := (Kept.refl w3).alloc _
                change Code.wp _ _ _ _ (w3.alloc (.cells #[.int .i64 K, .int .i64 k, .int .i64 ((k : Int) + N)] 36))
                generalize w3.alloc (.cells #[.int .i64 K, .int .i64 k, .int .i64 ((k : Int) + N)] 36) = w4 at B4 ow4 kk4 ⊢
                have hk4 := hk3.trans kk4
                have hc4 := kk4.cell hc3
                have hb4 := World.block_lt_of_cell? _ _ hc4
                have hsz3 := hk3.size
                have hb3 : bb < w3.heap.size := World.block_lt_of_cell? _ _ hc3
                generalize w3.heap.size = g2 at B4 hneo hsz3 hb3 ⊢
                clear hc3 ow3
                go_upto_region 14 with (at_builtin; refine wpList_push w (by rfl) _ _ (by rfl) appT_rprt (by rfl) ow4 hk4 (by rfl) ?_ ?_; (exact ⟨by simp, rfl, rfl, by omega⟩); intro v5 w5 ow5 hk5 hgr5 _)
                have kk5 := ((Kept.refl w4).alloc (.cells #[.int .i64 5, .int .i64 k, .int .i64 ((k + 1 : Nat) : Int)] 36))
                have hs5 := hs.kept hk5
                go_wp2_with fail
                refine (HCL.out _ hk5).mono ?_
                rintro e w6 ⟨rfl, k6⟩
                have ow6 := own_kept ow5 k6
                have hk6 := hk5.trans k6
                go_wp2_with (at_builtin; refine wpList_push w (by rfl) _ _ (by rfl) appT_rprt (by rfl) ow6 hk6 (by rfl) ?_ ?_; (exact ⟨by simp, rfl, rfl, by omega⟩); intro v7 w7 ow7 hk7 _ _)
                go_roundw
                case rel =>
                  refine ⟨k + S, P ++ SP, true, by omega, by omega, by first | go_num | (rw [hN]; go_num) | (rw [hN]), rfl, ?_, hk7, by rw [List.length_append]; omega, by rw [List.length_append]; omega, HE⟩
                  rw [List.length_append, hl1, List.flatMap_append, HSE.out]
                  first | simpa [prtC] using ow7 | exact ow7
                case measure => simp [intOf]; omega
              · have q2 : ¬ (E : Int) < T := by omega
                rw [if_neg p2] at hN
                have hSE := HF1.out.1
                rw [if_neg p1, if_neg p2] at hSE
                have HSE := Lib.hid hSE
                have hlen : SP.length ≤ S := HF1.out.2
                have hl1 : SP.length = 1 := by rw [hSE]; rfl
                clear hSE
                go_wp2_with fail
                refine HWD.out.mono ?_
                rintro e w3 ⟨rfl, k3⟩
                have hk3 := hkept.trans k3
                have ow3 := own_kept hown k3
                have hc3 := k3.cell hc
                have hneo := ne_own ow3
                go_upto_region 9 with fail
                have B4 : Blk (w3.alloc (.cells #[.int .i64 K, .int .i64 k, .int .i64 ((k : Int) + N)] 36)) w3.heap.size #[.int .i64 K, .int .i64 k, .int .i64 ((k : Int) + N)] 36 := Blk.new w3 _ _
                have ow4 := ow3.alloc (.cells #[.int .i64 K, .int .i64 k, .int .i64 ((k : Int) + N)] 36)
                have kk4 : Kept w3 (w3.alloc (.cells #[.int .i64 K, .int .i64 k, .int .i64 ((k : Int) + N)] 36)) := (Kept.refl w3).alloc _
                change Code.wp _ _ _ _ (w3.alloc (.cells #[.int .i64 K, .int .i64 k, .int .i64 ((k : Int) + N)] 36))
                generalize w3.alloc (.cells #[.int .i64 K, .int .i64 k, .int .i64 ((k : Int) + N)] 36) = w4 at B4 ow4 kk4 ⊢
                have hk4 := hk3.trans kk4
                have hc4 := kk4.cell hc3
                have hb4 := World.block_lt_of_cell? _ _ hc4
                have hsz3 := hk3.size
                have hb3 : bb < w3.heap.size := World.block_lt_of_cell? _ _ hc3
                generalize w3.heap.size = g2 at B4 hneo hsz3 hb3 ⊢
                clear hc3 ow3
                go_upto_region 14 with (at_builtin; refine wpList_push w (by rfl) _ _ (by rfl) appT_rprt (by rfl) ow4 hk4 (by rfl) ?_ ?_; (exact ⟨by simp, rfl, rfl, by omega⟩); intro v5 w5 ow5 hk5 hgr5 _)
                have kk5 := ((Kept.refl w4).alloc (.cells #[.int .i64 5, .int .i64 k, .int .i64 ((k + 1 : Nat) : Int)] 36))
                have hs5 := hs.kept hk5
                go_wp2_with fail
                refine (HCL.out _ hk5).mono ?_
                rintro e w6 ⟨rfl, k6⟩
                have ow6 := own_kept ow5 k6
                have hk6 := hk5.trans k6
                go_wp2_with fail
                go_roundw
                case rel =>
                  refine ⟨k + S, P ++ SP, true, by omega, by omega, by first | go_num | (rw [hN]; go_num) | (rw [hN]), rfl, ?_, hk6, by rw [List.length_append]; omega, by rw [List.length_append]; omega, HE⟩
                  rw [List.length_append, hl1, List.flatMap_append, HSE.out]
                  first | simpa [prtC] using ow6 | exact ow6
                case measure => simp [intOf]; omega
          ·
            have nc : ¬ ((91 : Int) = 62 ∧ k + 1 = T) := by omega
            have HE := Lib.hid (show R = P ++ [⟨K, (k : Int), (k : Int) + N⟩] ++ partX ((k + N : Nat) : Int) (s.drop (k + N)) true by
              rw [hinv.out, HWX.out (by simp), if_neg (by first | exact nc | omega | simp), List.append_assoc]
              simp)
            go_wp2_with fail
            refine HWD.out.mono ?_
            rintro e w3 ⟨rfl, k3⟩
            have hk3 := hkept.trans k3
            have ow3 := own_kept hown k3
            have hc3 := k3.cell hc
            have hneo := ne_own ow3
            go_upto_region 9 with fail
            have B4 : Blk (w3.alloc (.cells #[.int .i64 K, .int .i64 k, .int .i64 ((k : Int) + N)] 36)) w3.heap.size #[.int .i64 K, .int .i64 k, .int .i64 ((k : Int) + N)] 36 := Blk.new w3 _ _
            have ow4 := ow3.alloc (.cells #[.int .i64 K, .int .i64 k, .int .i64 ((k : Int) + N)] 36)
            have kk4 : Kept w3 (w3.alloc (.cells #[.int .i64 K, .int .i64 k, .int .i64 ((k : Int) + N)] 36)) := (Kept.refl w3).alloc _
            change Code.wp _ _ _ _ (w3.alloc (.cells #[.int .i64 K, .int .i64 k, .int .i64 ((k : Int) + N)] 36))
            generalize w3.alloc (.cells #[.int .i64 K, .int .i64 k, .int .i64 ((k : Int) + N)] 36) = w4 at B4 ow4 kk4 ⊢
            have hk4 := hk3.trans kk4
            have hc4 := kk4.cell hc3
            have hb4 := World.block_lt_of_cell? _ _ hc4
            have hsz3 := hk3.size
            have hb3 : bb < w3.heap.size := World.block_lt_of_cell? _ _ hc3
            generalize w3.heap.size = g2 at B4 hneo hsz3 hb3 ⊢
            clear hc3 ow3
            have c0 : w4.cell? ⟨g2, 0, none⟩ = some (.int .i64 K) := B4.cell 0
            have c1 : w4.cell? ⟨g2, 1, none⟩ = some (.int .i64 k) := B4.cell 1
            have c2 : w4.cell? ⟨g2, 2, none⟩ = some (.int .i64 ((k : Int) + N)) := B4.cell 2
            have gl2 := B4.lt
            go_upto_region 22 with (at_builtin; refine wpList_push w (by rfl) _ _ (by rfl) appT_rprt (by rfl) ow4 hk4 (by rfl) ?_ ?_; (exact ⟨by simp, rfl, rfl, by omega⟩); intro v' w' hown' hk' hgr' _)
            have B6 := (B4.alloc (.cells #[.int .i64 K, .int .i64 k, .int .i64 ((k : Int) + N)] 36)).grown hgr' hneo
            have d2 : w'.cell? ⟨g2, 2, none⟩ = some (.int .i64 ((k : Int) + N)) := B6.cell 2
            clear c0 c1 c2 gl2
            go_wp2_with fail
            go_roundw
            case rel =>
              refine ⟨k + N, P ++ [⟨K, (k : Int), (k : Int) + N⟩], _, by omega, by omega, by go_num, rfl, by simpa [prtC] using hown', hk', by simp, by simp; omega, ?_⟩
              exact HE
            case measure => simp [intOf]; omega
        · have d91 : (x == 91) = false := by simpa using h91
          have hne91 : ¬ (x = 91 ∧ q = false) := fun h => h91 h.1
          have H91 := Lib.hid hne91
          clear h91 hne91
          by_cases h62 : x = 62
          · subst h62
            by_cases hk1 : k + 1 = T
            · have l1 : ((k : Int) + 1 == (T : Int)) = true := by simp; omega
              have l2 : (k : Int) + 1 = (T : Int) := by omega
              have HE := Lib.hid (show R = P ++ [⟨7, (k : Int), (k : Int) + N⟩] ++ partX ((k + N : Nat) : Int) (s.drop (k + N)) q by
                rw [hinv.out, HWX.out H91.out, if_pos (by exact ⟨rfl, hk1⟩), List.append_assoc]
                simp)
              go_wp2_with fail
              refine HWD.out.mono ?_
              rintro e w3 ⟨rfl, k3⟩
              have hk3 := hkept.trans k3
              have ow3 := own_kept hown k3
              have hc3 := k3.cell hc
              have hneo := ne_own ow3
              go_upto_region 9 with fail
              have B4 : Blk (w3.alloc (.cells #[.int .i64 K, .int .i64 k, .int .i64 ((k : Int) + N)] 36)) w3.heap.size #[.int .i64 K, .int .i64 k, .int .i64 ((k : Int) + N)] 36 := Blk.new w3 _ _
              have ow4 := ow3.alloc (.cells #[.int .i64 K, .int .i64 k, .int .i64 ((k : Int) + N)] 36)
              have kk4 : Kept w3 (w3.alloc (.cells #[.int .i64 K, .int .i64 k, .int .i64 ((k : Int) + N)] 36)) := (Kept.refl w3).alloc _
              change Code.wp _ _ _ _ (w3.alloc (.cells #[.int .i64 K, .int .i64 k, .int .i64 ((k : Int) + N)] 36))
              generalize w3.alloc (.cells #[.int .i64 K, .int .i64 k, .int .i64 ((k : Int) + N)] 36) = w4 at B4 ow4 kk4 ⊢
              have hk4 := hk3.trans kk4
              have hc4 := kk4.cell hc3
              have hb4 := World.block_lt_of_cell? _ _ hc4
              have hsz3 := hk3.size
              have hb3 : bb < w3.heap.size := World.block_lt_of_cell? _ _ hc3
              generalize w3.heap.size = g2 at B4 hneo hsz3 hb3 ⊢
              clear hc3 ow3
              have z0 : w4.cell? ⟨g2, 0, none⟩ = some (.int .i64 K) := B4.cell 0
              have zf := B4.frozen
              have zl := B4.lt
              go_upto_region 11 with fail
              have B5 := B4.set 0 (.int .i64 7)
              have ow5 := own_far ow4 hneo 0 (.int .i64 7)
              have hg2 : w.heap.size ≤ g2 := hsz3
              have hk5 := hk4.setCell (p := ⟨g2, 0, none⟩) hg2 (.int .i64 7)
              have hc5 : (w4.setCell ⟨g2, 0, none⟩ (.int .i64 7)).cell? ⟨bb, oo + k, none⟩ = some (.int .i32 62) := (World.cell?_setCell_far w4 ⟨g2, 0, none⟩ ⟨bb, oo + k, none⟩ _ (fun e => by have e' : g2 = bb := e; omega)).trans hc4
              change Code.wp _ _ _ _ (w4.setCell ⟨g2, 0, none⟩ (.int .i64 7))
              generalize w4.setCell ⟨g2, 0, none⟩ (.int .i64 7) = w5 at B5 ow5 hk5 hc5 ⊢
              have hb5 := World.block_lt_of_cell? _ _ hc5
              clear z0 zf zl B4 ow4 hk4 hc4 hb4 kk4
              have c0 : w5.cell? ⟨g2, 0, none⟩ = some (.int .i64 7) := B5.cell 0
              have c1 : w5.cell? ⟨g2, 1, none⟩ = some (.int .i64 k) := B5.cell 1
              have c2 : w5.cell? ⟨g2, 2, none⟩ = some (.int .i64 ((k : Int) + N)) := B5.cell 2
              have gl2 := B5.lt
              go_upto_region 22 with (at_builtin; refine wpList_push w (by rfl) _ _ (by rfl) appT_rprt (by rfl) ow5 hk5 (by rfl) ?_ ?_; (exact ⟨by simp, rfl, rfl, by omega⟩); intro v' w' hown' hk' hgr' _)
              have B6 := (B5.alloc (.cells #[.int .i64 7, .int .i64 k, .int .i64 ((k : Int) + N)] 36)).grown hgr' hneo
              have d2 : w'.cell? ⟨g2, 2, none⟩ = some (.int .i64 ((k : Int) + N)) := B6.cell 2
              clear c0 c1 c2 gl2
              go_wp2_with fail
              go_roundw
              case rel =>
                refine ⟨k + N, P ++ [⟨7, (k : Int), (k : Int) + N⟩], _, by omega, by omega, by go_num, rfl, by simpa [prtC] using hown', hk', by simp, by simp; omega, ?_⟩
                exact HE
              case measure => simp [intOf]; omega
            · have l1 : ((k : Int) + 1 == (T : Int)) = false := by simp; omega
              have l2 : ¬ (k : Int) + 1 = (T : Int) := by omega
              have nc : ¬ ((62 : Int) = 62 ∧ k + 1 = T) := fun h => hk1 h.2
              have HE := Lib.hid (show R = P ++ [⟨K, (k : Int), (k : Int) + N⟩] ++ partX ((k + N : Nat) : Int) (s.drop (k + N)) q by
                rw [hinv.out, HWX.out H91.out, if_neg (by first | exact nc | omega | simp), List.append_assoc]
                simp)
              go_wp2_with fail
              refine HWD.out.mono ?_
              rintro e w3 ⟨rfl, k3⟩
              have hk3 := hkept.trans k3
              have ow3 := own_kept hown k3
              have hc3 := k3.cell hc
              have hneo := ne_own ow3
              go_upto_region 9 with fail
              have B4 : Blk (w3.alloc (.cells #[.int .i64 K, .int .i64 k, .int .i64 ((k : Int) + N)] 36)) w3.heap.size #[.int .i64 K, .int .i64 k, .int .i64 ((k : Int) + N)] 36 := Blk.new w3 _ _
              have ow4 := ow3.alloc (.cells #[.int .i64 K, .int .i64 k, .int .i64 ((k : Int) + N)] 36)
              have kk4 : Kept w3 (w3.alloc (.cells #[.int .i64 K, .int .i64 k, .int .i64 ((k : Int) + N)] 36)) := (Kept.refl w3).alloc _
              change Code.wp _ _ _ _ (w3.alloc (.cells #[.int .i64 K, .int .i64 k, .int .i64 ((k : Int) + N)] 36))
              generalize w3.alloc (.cells #[.int .i64 K, .int .i64 k, .int .i64 ((k : Int) + N)] 36) = w4 at B4 ow4 kk4 ⊢
              have hk4 := hk3.trans kk4
              have hc4 := kk4.cell hc3
              have hb4 := World.block_lt_of_cell? _ _ hc4
              have hsz3 := hk3.size
              have hb3 : bb < w3.heap.size := World.block_lt_of_cell? _ _ hc3
              generalize w3.heap.size = g2 at B4 hneo hsz3 hb3 ⊢
              clear hc3 ow3
              have c0 : w4.cell? ⟨g2, 0, none⟩ = some (.int .i64 K) := B4.cell 0
              have c1 : w4.cell? ⟨g2, 1, none⟩ = some (.int .i64 k) := B4.cell 1
              have c2 : w4.cell? ⟨g2, 2, none⟩ = some (.int .i64 ((k : Int) + N)) := B4.cell 2
              have gl2 := B4.lt
              go_upto_region 22 with (at_builtin; refine wpList_push w (by rfl) _ _ (by rfl) appT_rprt (by rfl) ow4 hk4 (by rfl) ?_ ?_; (exact ⟨by simp, rfl, rfl, by omega⟩); intro v' w' hown' hk' hgr' _)
              have B6 := (B4.alloc (.cells #[.int .i64 K, .int .i64 k, .int .i64 ((k : Int) + N)] 36)).grown hgr' hneo
              have d2 : w'.cell? ⟨g2, 2, none⟩ = some (.int .i64 ((k : Int) + N)) := B6.cell 2
              clear c0 c1 c2 gl2
              go_wp2_with fail
              go_roundw
              case rel =>
                refine ⟨k + N, P ++ [⟨K, (k : Int), (k : Int) + N⟩], _, by omega, by omega, by go_num, rfl, by simpa [prtC] using hown', hk', by simp, by simp; omega, ?_⟩
                exact HE
              case measure => simp [intOf]; omega
          · have d62 : (x == 62) = false := by simpa using h62
            have nc : ¬ (x = 62 ∧ k + 1 = T) := fun h => h62 h.1
            have HE := Lib.hid (show R = P ++ [⟨K, (k : Int), (k : Int) + N⟩] ++ partX ((k + N : Nat) : Int) (s.drop (k + N)) q by
              rw [hinv.out, HWX.out H91.out, if_neg (by first | exact nc | omega | simp), List.append_assoc]
              simp)
            go_wp2_with fail
            refine HWD.out.mono ?_
            rintro e w3 ⟨rfl, k3⟩
            have hk3 := hkept.trans k3
            have ow3 := own_kept hown k3
            have hc3 := k3.cell hc
            have hneo := ne_own ow3
            go_upto_region 9 with fail
            have B4 : Blk (w3.alloc (.cells #[.int .i64 K, .int .i64 k, .int .i64 ((k : Int) + N)] 36)) w3.heap.size #[.int .i64 K, .int .i64 k, .int .i64 ((k : Int) + N)] 36 := Blk.new w3 _ _
            have ow4 := ow3.alloc (.cells #[.int .i64 K, .int .i64 k, .int .i64 ((k : Int) + N)] 36)
            have kk4 : Kept w3 (w3.alloc (.cells #[.int .i64 K, .int .i64 k, .int .i64 ((k : Int) + N)] 36)) := (Kept.refl w3).alloc _
            change Code.wp _ _ _ _ (w3.alloc (.cells #[.int .i64 K, .int .i64 k, .int .i64 ((k : Int) + N)] 36))
            generalize w3.alloc (.cells #[.int .i64 K, .int .i64 k, .int .i64 ((k : Int) + N)] 36) = w4 at B4 ow4 kk4 ⊢
            have hk4 := hk3.trans kk4
            have hc4 := kk4.cell hc3
            have hb4 := World.block_lt_of_cell? _ _ hc4
            have hsz3 := hk3.size
            have hb3 : bb < w3.heap.size := World.block_lt_of_cell? _ _ hc3
            generalize w3.heap.size = g2 at B4 hneo hsz3 hb3 ⊢
            clear hc3 ow3
            have c0 : w4.cell? ⟨g2, 0, none⟩ = some (.int .i64 K) := B4.cell 0
            have c1 : w4.cell? ⟨g2, 1, none⟩ = some (.int .i64 k) := B4.cell 1
            have c2 : w4.cell? ⟨g2, 2, none⟩ = some (.int .i64 ((k : Int) + N)) := B4.cell 2
            have gl2 := B4.lt
            go_upto_region 22 with (at_builtin; refine wpList_push w (by rfl) _ _ (by rfl) appT_rprt (by rfl) ow4 hk4 (by rfl) ?_ ?_; (exact ⟨by simp, rfl, rfl, by omega⟩); intro v' w' hown' hk' hgr' _)
            have B6 := (B4.alloc (.cells #[.int .i64 K, .int .i64 k, .int .i64 ((k : Int) + N)] 36)).grown hgr' hneo
            have d2 : w'.cell? ⟨g2, 2, none⟩ = some (.int .i64 ((k : Int) + N)) := B6.cell 2
            clear c0 c1 c2 gl2
            go_wp2_with fail
            go_roundw
            case rel =>
              refine ⟨k + N, P ++ [⟨K, (k : Int), (k : Int) + N⟩], _, by omega, by omega, by go_num, rfl, by simpa [prtC] using hown', hk', by simp, by simp; omega, ?_⟩
              exact HE
            case measure => simp [intOf]; omega
end Go.Proofs.Ytnfcfpcpfnhcnaa
