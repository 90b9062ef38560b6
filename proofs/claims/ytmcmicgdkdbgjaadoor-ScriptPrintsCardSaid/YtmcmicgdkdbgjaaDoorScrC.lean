/- The document's Read of a text in quotes: walked (printed by wip/gen/gen_scrc.py). -/
import Derived.Test.YtmcmicgdkdbgjaaDoorScrB
namespace Go.Proofs.YtmcmicgdkdbgjaaDoor
open Go.RowKit
attribute [local go_sem ↓] Go.wp_at_zero Go.wp_at_succ

theorem digit_any (b : UInt8) (w : World) : Calls Tryd.prog 23 #[.int .u8 (b.toNat : Int)] w fun e w' => e = .returned (.int .i64 (hexI b)) ∧ Kept w w' := by
  have hb := b.toNat_lt
  have HX : Hid (hexI b = if 48 ≤ b.toNat ∧ b.toNat ≤ 57 then ((b.toNat - 48 : Nat) : Int) else if 97 ≤ b.toNat ∧ b.toNat ≤ 102 then ((b.toNat - 87 : Nat) : Int) else -1) := by
    unfold Hid hexI hexF
    by_cases h1 : 48 ≤ b.toNat ∧ b.toNat ≤ 57
    · rw [if_pos h1, if_pos h1]
    · rw [if_neg h1, if_neg h1]
      by_cases h2 : 97 ≤ b.toNat ∧ b.toNat ≤ 102
      · rw [if_pos h2, if_pos h2]
      · rw [if_neg h2, if_neg h2]
  obtain ⟨z, hz⟩ : ∃ z, hexI b = z := ⟨_, rfl⟩
  rw [hz] at HX ⊢
  obtain ⟨n, hn⟩ : ∃ n, b.toNat = n := ⟨_, rfl⟩
  rw [hn] at HX hb ⊢
  clear hz hn
  by_cases h1 : 48 ≤ n ∧ n ≤ 57
  · have HZ : Hid (z = (n : Int) - 48) := by
      rw [HX.out, if_pos h1]
      unfold Hid
      omega
    have l1 : (48 : Int) ≤ n := by omega
    have l2 : (n : Int) ≤ 57 := by omega
    have s0 : IntKind.i64.wrap (n : Int) = (n : Int) := IntWalk.i64_in _ (by omega)
    have s1 : IntKind.i64.wrap ((n : Int) - 48) = (n : Int) - 48 := IntWalk.i64_in _ (by omega)
    clear HX h1
    go_enter Tryd.func23, Tryd.ntmps23
    go_wp2_with fail
    go_ret
    exact ⟨ret_int HZ.out.symm, Kept.refl _⟩
  · by_cases h2 : 97 ≤ n ∧ n ≤ 102
    · have HZ : Hid (z = (n : Int) - 97 + 10) := by
        rw [HX.out, if_neg h1, if_pos h2]
        unfold Hid
        omega
      have l1 : (48 : Int) ≤ n := by omega
      have l2 : ¬ (n : Int) ≤ 57 := by omega
      have l3 : (97 : Int) ≤ n := by omega
      have l4 : (n : Int) ≤ 102 := by omega
      have s0 : IntKind.i64.wrap (n : Int) = (n : Int) := IntWalk.i64_in _ (by omega)
      have s1 : IntKind.i64.wrap ((n : Int) - 97) = (n : Int) - 97 := IntWalk.i64_in _ (by omega)
      have s2 : IntKind.i64.wrap ((n : Int) - 97 + 10) = (n : Int) - 97 + 10 := IntWalk.i64_in _ (by omega)
      clear HX h1 h2
      go_enter Tryd.func23, Tryd.ntmps23
      go_wp2_with fail
      go_ret
      exact ⟨ret_int HZ.out.symm, Kept.refl _⟩
    · have HZ : Hid (z = -1) := by rw [HX.out, if_neg h1, if_neg h2]; rfl
      clear HX
      by_cases l1 : (48 : Int) ≤ n
      · have l2 : ¬ (n : Int) ≤ 57 := by omega
        by_cases l3 : (97 : Int) ≤ n
        · have l4 : ¬ (n : Int) ≤ 102 := by omega
          clear h1 h2
          go_enter Tryd.func23, Tryd.ntmps23
          go_wp2_with fail
          go_ret
          exact ⟨ret_int HZ.out.symm, Kept.refl _⟩
        · clear h1 h2
          go_enter Tryd.func23, Tryd.ntmps23
          go_wp2_with fail
          go_ret
          exact ⟨ret_int HZ.out.symm, Kept.refl _⟩
      · have l3 : ¬ (97 : Int) ≤ n := by omega
        clear h1 h2
        go_enter Tryd.func23, Tryd.ntmps23
        go_wp2_with fail
        go_ret
        exact ⟨ret_int HZ.out.symm, Kept.refl _⟩
theorem u8_ne {b : UInt8} {n : Nat} (hn : n < 256) (h : b ≠ UInt8.ofNat n) : ((b.toNat : Int) == (n : Int)) = false := by
  rw [Bool.eq_false_iff]
  intro e
  have := beq_iff_eq.1 e
  refine h (UInt8.toNat_inj.1 ?_)
  rw [UInt8.toNat_ofNat']
  omega
theorem u8_neb {b : UInt8} {n : Nat} (hn : n < 256) (h : b ≠ UInt8.ofNat n) : ((b.toNat : Int) != (n : Int)) = true := by
  unfold bne
  rw [u8_ne hn h]
  rfl
set_option maxRecDepth 100000 in
set_option maxHeartbeats 8000000 in
theorem rread_any (s : ByteArray) (w : World) (hs : s.size ≤ 1000000) : Calls Tryd.prog 9 #[.string s] w fun e w' => e = .returned (readV (readF s.toList)) ∧ Kept w w' := by
  have HL := Lib.hid (bytes_len s)
  cases hl : s.toList with
  | nil =>
    have HZ : Hid (readF [] = none) := rfl
    have hz : s.size = 0 := by rw [← HL.out, hl]; rfl
    have l0 : ((s.size : Int) == 0) = true := by rw [hz]; rfl
    clear hl hz
    go_enter Tryd.func9, Tryd.ntmps9
    go_wp2_with fail
    refine bodyPost_ret (v := readV none) (by simp [results, Tryd.results9, go_sem, readV]) rfl ⟨by rw [HZ.out], Kept.refl _⟩
  | cons c r =>
    have hpos : 0 < s.size := by
      rw [← HL.out, hl]
      simp
    have hc : s[0]'hpos = c := by
      have := bytes_get hpos
      rw [hl] at this
      exact (Option.some.inj this).symm
    have l0 : ((s.size : Int) == 0) = false := by rw [beq_eq_false_iff_ne]; omega
    have l00 : (0 : Int) < s.size := by omega
    by_cases h34 : c = 34
    · have m1 : (((s[0]'hpos).toNat : Int) != 34) = false := by
        rw [hc, h34]
        rfl
      obtain ⟨B, hB⟩ : ∃ B, (s[0]'hpos).toNat = B := ⟨_, rfl⟩
      rw [hB] at m1
      have HST : Hid (RAt s.toList 1 []) := by
        rw [hl]
        exact RAt.start h34
      rw [← hl]
      clear hl hc h34
      go_enter Tryd.func9, Tryd.ntmps9
      go_wp2_with fail
      go_loopw [5, 6] (fun v i wr => ∃ (k : Nat) (O : Bs), 1 ≤ k ∧ k ≤ s.size ∧ i = .int .i64 k ∧ O.length ≤ k ∧ wr.ownsRow w.heap.size 5 1 v O.length (O.map byV) ∧ Kept w wr ∧ Hid (RAt s.toList k O)) (fun _ i _ => s.size - (intOf i).toNat)
      case atStart => exact ⟨1, [], Nat.le_refl _, by omega, rfl, Nat.zero_le _, ⟨rfl, .inl ⟨rfl, rfl⟩⟩, Kept.refl _, HST⟩
      case round =>
        clear HST m1
        obtain ⟨k, O, hk1, hks, rfl, hOk, hown, hkept, HR⟩ := hrel
        by_cases hlt : k < s.size
        · have l1 : (k : Int) < s.size := by omega
          have l2 : (0 : Int) ≤ k := by omega
          obtain ⟨k1, e1⟩ : ∃ k1, k + 1 = k1 := ⟨_, rfl⟩
          obtain ⟨k2, e2⟩ : ∃ k2, k + 2 = k2 := ⟨_, rfl⟩
          obtain ⟨k3, e3⟩ : ∃ k3, k + 3 = k3 := ⟨_, rfl⟩
          obtain ⟨k4, e4⟩ : ∃ k4, k + 4 = k4 := ⟨_, rfl⟩
          have s1 : IntKind.i64.wrap ((k : Int) + 1) = (k1 : Int) := by
            rw [show (k : Int) + 1 = (k1 : Int) by omega]
            exact IntWalk.i64_in _ (by omega)
          have s2 : IntKind.i64.wrap ((k : Int) + 2) = (k2 : Int) := by
            rw [show (k : Int) + 2 = (k2 : Int) by omega]
            exact IntWalk.i64_in _ (by omega)
          have s3 : IntKind.i64.wrap ((k : Int) + 3) = (k3 : Int) := by
            rw [show (k : Int) + 3 = (k3 : Int) by omega]
            exact IntWalk.i64_in _ (by omega)
          have s4 : IntKind.i64.wrap ((k : Int) + 4) = (k4 : Int) := by
            rw [show (k : Int) + 4 = (k4 : Int) by omega]
            exact IntWalk.i64_in _ (by omega)
          have HK := Lib.hid (show k + 1 = k1 ∧ k + 2 = k2 ∧ k + 3 = k3 ∧ k + 4 = k4 from ⟨e1, e2, e3, e4⟩)
          clear e1 e2 e3 e4
          obtain ⟨b, hb⟩ : ∃ b, s[k]'hlt = b := ⟨_, rfl⟩
          have hget : s.toList[k]? = some b := by rw [bytes_get hlt, hb]
          have hbl := b.toNat_lt
          by_cases c1 : b = 34
          · have m1 : ((b.toNat : Int) == 34) = true := by rw [c1]; rfl
            have HZ : Hid (readF s.toList = some (O, k1)) := by rw [← HK.out.1]; exact HR.out.done (by rw [hget, c1])
            obtain ⟨VA, VC, rfl, hV⟩ := Sl.of_own hown
            have hV2 : Sl wr 1 VA O.length VC ((O.map fun b => (b.toNat : Int)).map (Value.int .u8)) := by
              rw [List.map_map]
              exact hV
            have hcv := run_str (P := Tryd.prog) Tryd.underlying49 Tryd.underlying5 Tryd.underlying9 hV2
            rw [str_nums] at hcv
            clear hV2 hget c1
            go_wp2_with fail
            refine bodyPost_ret (v := readV (some (O, k1))) (by simp [results, Tryd.results9, go_sem, readV]) rfl ⟨by rw [HZ.out], hkept⟩
          · have m1 : ((b.toNat : Int) == 34) = false := u8_ne (n := 34) (by omega) c1
            by_cases c3 : b.toNat < 32 ∨ 126 < b.toNat
            · have HZ : Hid (readF s.toList = none) := HR.out.bad hget c3
              clear hget
              rcases c3 with c3 | c3
              · have m3 : (b.toNat : Int) < 32 := by omega
                go_wp2_with fail
                refine bodyPost_ret (v := readV none) (by simp [results, Tryd.results9, go_sem, readV]) rfl ⟨by rw [HZ.out], hkept⟩
              · have m3 : ¬ (b.toNat : Int) < 32 := by omega
                have m4 : (126 : Int) < b.toNat := by omega
                go_wp2_with fail
                refine bodyPost_ret (v := readV none) (by simp [results, Tryd.results9, go_sem, readV]) rfl ⟨by rw [HZ.out], hkept⟩
            · have m3 : ¬ (b.toNat : Int) < 32 := by omega
              have m4 : ¬ (126 : Int) < b.toNat := by omega
              by_cases c2 : b = 92
              · have m2 : ((b.toNat : Int) != 92) = false := by rw [c2]; rfl
                have hg92 : s.toList[k]? = some 92 := by rw [hget, c2]
                have HEN := Lib.hid (fun he => HR.out.esc_no hg92 he)
                have HEY := Lib.hid (fun (n : Nat) (y : UInt8) he => HR.out.esc (k := n) (b := y) hg92 he)
                rw [HK.out.1] at HEN HEY
                clear hget hg92 c3
                by_cases g1 : k1 < s.size
                · have i1 : (k1 : Int) < s.size := by omega
                  have j1 : (0 : Int) ≤ k1 := by omega
                  obtain ⟨x1, hx1⟩ : ∃ x1, s[k1]'g1 = x1 := ⟨_, rfl⟩
                  have hd1 := drop_at (bytes_get g1)
                  rw [hx1] at hd1
                  by_cases q : x1 = 34 ∨ x1 = 92
                  · have HN : Hid (RAt s.toList k2 (O ++ [x1])) := by
                      have := HEY.out 1 x1 (by rw [hd1, escF, if_pos q])
                      rwa [show k + 1 + 1 = k2 by have := HK.out; omega] at this
                    have hk2s : k2 ≤ s.size := by have := HK.out; omega
                    have HK2 := Lib.hid (show k < k2 ∧ 1 ≤ k2 by have := HK.out; omega)
                    have hOk2 : O.length + 1 ≤ k2 := by have := HK.out; omega
                    clear HEN HEY hd1 c1 c2
                    rcases q with q | q
                    · have n1 : ((x1.toNat : Int) == 34) = true := by rw [q]; rfl
                      clear q
                      go_wp2_with (at_builtin; refine wpList_push w (by rfl) _ _ (by rfl) appT_by (by rfl) hown hkept (by rfl) ?_ ?_; (exact ⟨by rfl, by rfl, by rfl, by omega⟩); intro v' w3 hown3 hk3 hgr3 hob3)
                      go_roundw
                      case rel => exact ⟨k2, O ++ [x1], HK2.out.2, hk2s, rfl, by rw [List.length_append, List.length_singleton]; omega, by rw [List.map_append, List.length_append]; exact hown3, hk3, HN⟩
                      case measure =>
                        have := HK2.out
                        simp [intOf]
                        omega
                    · have n1 : ((x1.toNat : Int) == 34) = false := by rw [q]; rfl
                      have n2 : ((x1.toNat : Int) == 92) = true := by rw [q]; rfl
                      clear q
                      go_wp2_with (at_builtin; refine wpList_push w (by rfl) _ _ (by rfl) appT_by (by rfl) hown hkept (by rfl) ?_ ?_; (exact ⟨by rfl, by rfl, by rfl, by omega⟩); intro v' w3 hown3 hk3 hgr3 hob3)
                      go_roundw
                      case rel => exact ⟨k2, O ++ [x1], HK2.out.2, hk2s, rfl, by rw [List.length_append, List.length_singleton]; omega, by rw [List.map_append, List.length_append]; exact hown3, hk3, HN⟩
                      case measure =>
                        have := HK2.out
                        simp [intOf]
                        omega
                  · have n1 : ((x1.toNat : Int) == 34) = false := u8_ne (n := 34) (by omega) (fun e => q (.inl e))
                    have n2 : ((x1.toNat : Int) == 92) = false := u8_ne (n := 92) (by omega) (fun e => q (.inr e))
                    by_cases g3 : k3 < s.size
                    · have i3 : ¬ (s.size : Int) ≤ k3 := by omega
                      have i3' : (k3 : Int) < s.size := by omega
                      have g2 : k2 < s.size := by have := HK.out; omega
                      have i2 : (k2 : Int) < s.size := by omega
                      have j2 : (0 : Int) ≤ k2 := by omega
                      have j3 : (0 : Int) ≤ k3 := by omega
                      by_cases q2 : x1 = 120
                      · have n3 : ((x1.toNat : Int) != 120) = false := by rw [q2]; rfl
                        obtain ⟨x2, hx2⟩ : ∃ x2, s[k2]'g2 = x2 := ⟨_, rfl⟩
                        obtain ⟨x3, hx3⟩ : ∃ x3, s[k3]'g3 = x3 := ⟨_, rfl⟩
                        have hd2 := drop_at (bytes_get g2)
                        have hd3 := drop_at (bytes_get g3)
                        rw [hx2] at hd2
                        rw [hx3] at hd3
                        have HE : Hid (escF (s.toList.drop k1) = match hexF x2, hexF x3 with
                          | some x, some y => if 32 ≤ 16 * x + y ∧ 16 * x + y ≤ 126 then none else some (UInt8.ofNat (16 * x + y), 3)
                          | _, _ => none) := by
                          unfold Hid
                          have a1 : k1 + 1 = k2 := by have := HK.out; omega
                          have a2 : k2 + 1 = k3 := by have := HK.out; omega
                          rw [hd1, a1, hd2, a2, hd3, escF, if_neg q, if_neg (by simpa using q2)]
                          rfl
                        have HA := Lib.hid (fun w => digit_any x2 w)
                        have HB := Lib.hid (fun w => digit_any x3 w)
                        clear hd1 hd2 hd3 q q2 c1 c2
                        cases hA : hexF x2 with
                        | none =>
                          have vA : hexI x2 = -1 := by unfold hexI; rw [hA]
                          have HZ : Hid (readF s.toList = none) := HEN.out (by have := HE.out; rw [hA] at this; exact this)
                          rw [vA] at HA
                          clear HE hA HB HEN HEY vA
                          go_wp2_with fail
                          refine (HA.out _).mono ?_
                          rintro e w2 ⟨rfl, k2⟩
                          go_wp2_with fail
                          refine bodyPost_ret (v := readV none) (by simp [results, Tryd.results9, go_sem, readV]) rfl ⟨by rw [HZ.out], hkept.trans k2⟩
                        | some x =>
                          have hx := hexF_lt hA
                          have vA : hexI x2 = (x : Int) := by unfold hexI; rw [hA]
                          rw [vA] at HA
                          have t1 : ¬ (x : Int) < 0 := by omega
                          cases hB' : hexF x3 with
                          | none =>
                            have vB : hexI x3 = -1 := by unfold hexI; rw [hB']
                            have HZ : Hid (readF s.toList = none) := HEN.out (by have := HE.out; rw [hA, hB'] at this; exact this)
                            rw [vB] at HB
                            clear HE hA hB' HEN HEY vA vB
                            go_wp2_with fail
                            refine (HA.out _).mono ?_
                            rintro e w2 ⟨rfl, k2⟩
                            go_wp2_with fail
                            refine (HB.out _).mono ?_
                            rintro e w3 ⟨rfl, k3'⟩
                            go_wp2_with fail
                            refine bodyPost_ret (v := readV none) (by simp [results, Tryd.results9, go_sem, readV]) rfl ⟨by rw [HZ.out], (hkept.trans k2).trans k3'⟩
                          | some y =>
                            have hy := hexF_lt hB'
                            have vB : hexI x3 = (y : Int) := by unfold hexI; rw [hB']
                            have HE2 : Hid (escF (s.toList.drop k1) = if 32 ≤ 16 * x + y ∧ 16 * x + y ≤ 126 then none else some (UInt8.ofNat (16 * x + y), 3)) := by have := HE.out; rw [hA, hB'] at this; exact this
                            rw [vB] at HB
                            have t2 : ¬ (y : Int) < 0 := by omega
                            obtain ⟨v, hv⟩ : ∃ v, 16 * x + y = v := ⟨_, rfl⟩
                            have u1 : IntKind.i64.wrap (16 * (x : Int)) = 16 * (x : Int) := IntWalk.i64_in _ (by omega)
                            have u2 : IntKind.i64.wrap (16 * (x : Int) + y) = (v : Int) := by
                              rw [show 16 * (x : Int) + y = (v : Int) by omega]
                              exact IntWalk.i64_in _ (by omega)
                            have u3 : IntKind.u8.wrap (v : Int) = (v : Int) := by
                              simp [IntKind.wrap, IntKind.bits, IntKind.signed]
                              omega
                            have hvb : v < 256 := by omega
                            have hvm : (v : Int) % 256 = (v : Int) := by omega
                            rw [hv] at HE2
                            have hvo : (UInt8.ofNat v).toNat = v := Nat.mod_eq_of_lt hvb
                            clear HE hA hB' vA vB hv hx hy
                            have HF2 : Hid (∀ (v' : Value) (w3 : World), w3.ownsRow w.heap.size 5 1 v' (O.length + 1) (O.map byV ++ [.int .u8 (v : Int)]) → w3.ownsRow w.heap.size 5 1 v' (O ++ [UInt8.ofNat v]).length ((O ++ [UInt8.ofNat v]).map byV)) := by
                              intro v' w3 h3
                              rw [List.map_append, List.length_append]
                              show w3.ownsRow _ _ 1 v' (O.length + 1) (O.map byV ++ [Value.int .u8 ((UInt8.ofNat v).toNat : Int)])
                              rw [hvo]
                              exact h3
                            clear hvo
                            go_wp2_with fail
                            refine (HA.out _).mono ?_
                            rintro e w2 ⟨rfl, k2'⟩
                            go_wp2_with fail
                            refine (HB.out _).mono ?_
                            rintro e w3 ⟨rfl, k3'⟩
                            go_wp2_with fail
                            have hk3 := (hkept.trans k2').trans k3'
                            have hown3 := (own_kept hown k2')
                            have hown3 := (own_kept hown3 k3')
                            refine wp_region_kept (by kernel_rfl) (by kernel_rfl) ?_
                            repeat (quiet_step ((go_at_call 23; first | with_reducible exact Calls.kept_of (HA.out _) | with_reducible exact Calls.kept_of (HB.out _))))
                            refine wpQuiet_nil ?_
                            rintro w4 ⟨⟨w4', k4'⟩, hw4⟩
                            obtain rfl : w4 = w4' := hw4
                            have hk4 := hk3.trans k4'
                            have hown4 := own_kept hown3 k4'
                            by_cases z1 : 32 ≤ v ∧ v ≤ 126
                            · have HZ : Hid (readF s.toList = none) := HEN.out (by rw [HE2.out, if_pos z1])
                              have y1 : (32 : Int) ≤ v := by omega
                              have y2 : (v : Int) ≤ 126 := by omega
                              clear HE2 z1
                              go_wp2_with fail
                              refine bodyPost_ret (v := readV none) (by simp [results, Tryd.results9, go_sem, readV]) rfl ⟨by rw [HZ.out], hk4⟩
                            · have HN : Hid (RAt s.toList k4 (O ++ [UInt8.ofNat v])) := by
                                have := HEY.out 3 (UInt8.ofNat v) (by rw [HE2.out, if_neg z1])
                                rwa [show k + 3 + 1 = k4 by have := HK.out; omega] at this
                              have hk4s : k4 ≤ s.size := by have := HK.out; omega
                              have HK4 := Lib.hid (show k < k4 ∧ 1 ≤ k4 by have := HK.out; omega)
                              have hOk4 : O.length + 1 ≤ k4 := by have := HK.out; omega
                              clear HE2 HEN HEY
                              by_cases y1 : (32 : Int) ≤ v
                              · have y2 : ¬ (v : Int) ≤ 126 := by omega
                                clear z1
                                go_wp2_with (at_builtin; refine wpList_push w (by rfl) _ _ (by rfl) appT_by (by rfl) hown4 hk4 (by rfl) ?_ ?_; (exact ⟨by rfl, by rfl, by rfl, by omega⟩); intro v' w5 hown5 hk5 hgr5 hob5)
                                go_roundw
                                case rel => exact ⟨k4, O ++ [UInt8.ofNat v], HK4.out.2, hk4s, rfl, by rw [List.length_append, List.length_singleton]; omega, HF2.out _ _ hown5, hk5, HN⟩
                                case measure =>
                                  have := HK4.out
                                  simp [intOf]
                                  omega
                              · clear z1
                                go_wp2_with (at_builtin; refine wpList_push w (by rfl) _ _ (by rfl) appT_by (by rfl) hown4 hk4 (by rfl) ?_ ?_; (exact ⟨by rfl, by rfl, by rfl, by omega⟩); intro v' w5 hown5 hk5 hgr5 hob5)
                                go_roundw
                                case rel => exact ⟨k4, O ++ [UInt8.ofNat v], HK4.out.2, hk4s, rfl, by rw [List.length_append, List.length_singleton]; omega, HF2.out _ _ hown5, hk5, HN⟩
                                case measure =>
                                  have := HK4.out
                                  simp [intOf]
                                  omega
                      · have n3 : ((x1.toNat : Int) != 120) = true := u8_neb (n := 120) (by omega) q2
                        have HZ : Hid (readF s.toList = none) := HEN.out (by rw [hd1, escF, if_neg q, if_pos q2])
                        clear hd1 q q2 c1 c2 HEN HEY
                        go_wp2_with fail
                        refine bodyPost_ret (v := readV none) (by simp [results, Tryd.results9, go_sem, readV]) rfl ⟨by rw [HZ.out], hkept⟩
                    · have i3 : (s.size : Int) ≤ k3 := by omega
                      have HZ : Hid (readF s.toList = none) := HEN.out (by
                        rw [hd1, escF, if_neg q]
                        split
                        · rfl
                        · have hln : (s.toList.drop (k1 + 1)).length < 2 := by rw [List.length_drop, HL.out]; have := HK.out; omega
                          generalize s.toList.drop (k1 + 1) = u at hln
                          match u, hln with
                          | [], _ => rfl
                          | [_], _ => rfl
                          | _ :: _ :: _, hln => simp at hln; omega)
                      clear hd1 q c1 c2 HEN HEY
                      go_wp2_with fail
                      refine bodyPost_ret (v := readV none) (by simp [results, Tryd.results9, go_sem, readV]) rfl ⟨by rw [HZ.out], hkept⟩
                · have i1 : ¬ (k1 : Int) < s.size := by omega
                  have i3 : (s.size : Int) ≤ k3 := by have := HK.out; omega
                  have HZ : Hid (readF s.toList = none) := HEN.out (by rw [List.drop_eq_nil_of_le (by rw [HL.out]; omega)]; rfl)
                  clear c1 c2 HEN HEY
                  go_wp2_with fail
                  refine bodyPost_ret (v := readV none) (by simp [results, Tryd.results9, go_sem, readV]) rfl ⟨by rw [HZ.out], hkept⟩
              · have m2 : ((b.toNat : Int) != 92) = true := u8_neb (n := 92) (by omega) c2
                have HN : Hid (RAt s.toList k1 (O ++ [b])) := by rw [← HK.out.1]; exact HR.out.more hget c1 c2 c3
                have hk1s : k1 ≤ s.size := by have := HK.out; omega
                have HK1 := Lib.hid (show k < k1 ∧ 1 ≤ k1 by have := HK.out; omega)
                have hOk1 : O.length + 1 ≤ k1 := by have := HK.out; omega
                clear hget c3 c1 c2
                go_wp2_with (at_builtin; refine wpList_push w (by rfl) _ _ (by rfl) appT_by (by rfl) hown hkept (by rfl) ?_ ?_; (exact ⟨by rfl, by rfl, by rfl, by omega⟩); intro v' w3 hown3 hk3 hgr3 hob3)
                go_roundw
                case rel => exact ⟨k1, O ++ [b], HK1.out.2, hk1s, rfl, by rw [List.length_append, List.length_singleton]; omega, by rw [List.map_append, List.length_append]; exact hown3, hk3, HN⟩
                case measure =>
                  have := HK1.out
                  simp [intOf]
                  omega
        · have l1 : ¬ (k : Int) < s.size := by omega
          have HZ : Hid (readF s.toList = none) := HR.out.last (by rw [HL.out]; omega)
          go_wp2_with fail
          refine bodyPost_ret (v := readV none) (by simp [results, Tryd.results9, go_sem, readV]) rfl ⟨by rw [HZ.out], hkept⟩
    · have m1 : (((s[0]'hpos).toNat : Int) != 34) = true := by
        rw [hc]
        exact u8_neb (n := 34) (by omega) h34
      obtain ⟨B, hB⟩ : ∃ B, (s[0]'hpos).toNat = B := ⟨_, rfl⟩
      rw [hB] at m1
      have HZ : Hid (readF (c :: r) = none) := by
        unfold Hid
        rw [readF, if_neg h34]
      clear hl hc h34
      go_enter Tryd.func9, Tryd.ntmps9
      go_wp2_with fail
      refine bodyPost_ret (v := readV none) (by simp [results, Tryd.results9, go_sem, readV]) rfl ⟨by rw [HZ.out], Kept.refl _⟩
end Go.Proofs.YtmcmicgdkdbgjaaDoor
