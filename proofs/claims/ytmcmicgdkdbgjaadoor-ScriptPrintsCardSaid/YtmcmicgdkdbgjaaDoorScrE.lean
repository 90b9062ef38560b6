/- The document's paths: read, walked. -/
import Derived.Test.YtmcmicgdkdbgjaaDoorScrD
namespace Go.Proofs.YtmcmicgdkdbgjaaDoor
open Go.RowKit
attribute [local go_sem ↓] Go.wp_at_zero Go.wp_at_succ

theorem ext1 {s : ByteArray} {i : Nat} (h : i < s.size) : (s.extract i (i + 1)).toList = [s[i]'h] := by
  rw [ByteArray.toList_eq, ByteArray.data_extract, Array.toList_extract]
  have e : s.data.toList.drop i = s[i]'h :: s.data.toList.drop (i + 1) := List.drop_eq_getElem_cons h
  simp [e, List.take]
set_option maxRecDepth 100000 in
set_option maxHeartbeats 8000000 in
theorem rpread_any (s : ByteArray) (w : World) (hs : s.size ≤ 1000000) : Calls Tryd.prog 46 #[.string s] w fun e w' => PathOf (pathF s.toList) w e w' := by
  have HP : Hid (pathF s.toList = if s.toList = [46] then some [] else allF (splitF 47 s.toList)) := rfl
  obtain ⟨z, hz⟩ : ∃ z, pathF s.toList = z := ⟨_, rfl⟩
  rw [hz] at HP ⊢
  clear hz
  by_cases h0 : s.toList = [46]
  · have HZ : Hid (z = some []) := by have := HP.out; rwa [if_pos h0] at this
    have e1 : (s.toList == [46]) = true := by rw [h0]; rfl
    clear HP h0
    go_enter Tryd.func46, Tryd.ntmps46
    go_wp2_with fail
    go_ret2
    rw [HZ.out]
    exact ⟨Kept.refl _, none, 0, rfl, Sl.nil_, fun b o e => by cases e⟩
  · have HZ : Hid (z = allF (splitF 47 s.toList)) := by have := HP.out; rwa [if_neg h0] at this
    have e1 : (s.toList == [46]) = false := by simpa using h0
    have HL := Lib.hid (bytes_len s)
    have e0 : (⟨#[]⟩ : ByteArray).toList = [] := by rw [ByteArray.toList_eq]
    clear HP h0
    go_enter Tryd.func46, Tryd.ntmps46
    go_wp2_with fail
    go_loopw [4, 5, 6] (fun v u i wr => ∃ (k : Nat) (W : ByteArray) (N : List Nat), k ≤ s.size + 1 ∧ i = .int .i64 k ∧ u = .string W ∧ W.size ≤ k ∧ N.length ≤ k ∧ wr.ownsRow w.heap.size 3 1 v N.length (N.map natV) ∧ Kept w wr ∧ Hid (PAt s.toList k W.toList N)) (fun _ _ i _ => s.size + 1 - (intOf i).toNat)
    case atStart => exact ⟨0, ⟨#[]⟩, [], Nat.zero_le _, rfl, rfl, Nat.le_refl _, Nat.le_refl _, ⟨rfl, .inl ⟨rfl, rfl⟩⟩, Kept.refl _, by unfold Hid; rw [e0]; exact PAt.zero _⟩
    case round =>
      obtain ⟨k, W, N, hk, rfl, rfl, hWk, hNk, hown, hkept, HA⟩ := hrel
      have s1 : IntKind.i64.wrap ((k : Int) + 1) = (k : Int) + 1 := IntWalk.i64_in _ (by omega)
      by_cases hle : k ≤ s.size
      · have l1 : (k : Int) ≤ s.size := by omega
        by_cases hmore : ∃ h : k < s.size, s[k]'h ≠ 47
        · obtain ⟨hlt, hne⟩ := hmore
          have l2 : (k : Int) < s.size := by omega
          have l3 : (0 : Int) ≤ k := by omega
          have l4 : (k : Int) ≤ (k : Int) + 1 := by omega
          have l5 : (k : Int) + 1 ≤ s.size := by omega
          have l6 : ((k : Int) + 1).toNat = k + 1 := by omega
          have l7 : (0 : Int) ≤ (k : Int) + 1 := by omega
          have hx := ext1 hlt
          have HN : Hid (PAt s.toList (k + 1) (W ++ s.extract k (k + 1)).toList N) := by
            have := HA.out.more (bytes_get hlt) hne
            unfold Hid
            rw [toList_app, hx]
            exact this
          have hsz : (s.extract k (k + 1)).size = 1 := by
            rw [← bytes_len, hx]
            rfl
          have d1 : (((s[k]'hlt).toNat : Int) != 47) = true := by
            simp
            intro e
            exact hne (UInt8.toNat_inj.1 (by show _ = 47; omega))
          obtain ⟨x, hx2⟩ : ∃ x, s.extract k (k + 1) = x := ⟨_, rfl⟩
          rw [hx2] at HN hsz
          have hss : ¬ (9223372036854775807 < W.size + x.size) := by omega
          clear hx hne
          go_wp2_with fail
          go_roundw
          case rel => exact ⟨k + 1, W ++ x, N, by omega, by go_num, by rw [← hx2], by rw [ByteArray.size_append]; omega, by omega, hown, hkept, HN⟩
          case measure =>
            simp [intOf]
            omega
        · have hi : s.toList[k]? = some 47 ∨ k = s.toList.length := by
            rcases Nat.lt_or_ge k s.size with h | h
            · left
              rw [bytes_get h]
              congr 1
              exact Decidable.byContradiction fun hn => hmore ⟨h, hn⟩
            · right
              rw [bytes_len]
              omega
          have HB : Hid (numF W.toList = none → z = none) := fun hn => HZ.out.trans (HA.out.bad hi hn)
          have HG : Hid (∀ n, numF W.toList = some n → PAt s.toList (k + 1) [] (N ++ [n])) := by
            intro n hn
            rcases hi with hi | hi
            · exact HA.out.hit hi hn
            · exact HA.out.last hi hn
          have HM := Lib.hid hmore
          clear hi hmore
          go_upto_region 8 with fail
          go_cut [26] (fun q wx => q = .bool false ∧ wx.ownsRow w.heap.size 3 1 u4 N.length (N.map natV) ∧ Kept w wx)
          case first =>
            rcases Nat.lt_or_ge k s.size with h | h
            · have l2 : (k : Int) < s.size := by omega
              have l3 : (0 : Int) ≤ k := by omega
              have d1 : (((s[k]'h).toNat : Int) != 47) = false := by
                have hc : s[k]'h = 47 := Decidable.byContradiction fun hn => HM.out ⟨h, hn⟩
                rw [hc]
                rfl
              go_wp2_with fail
              go_meet
              exact ⟨rfl, hown, hkept⟩
            · have l2 : ¬ (k : Int) < s.size := by omega
              go_wp2_with fail
              go_meet
              exact ⟨rfl, hown, hkept⟩
          case rest =>
          obtain ⟨rfl, hown, hkept⟩ := hcut
          have HN : Hid (numF W.toList = if W.toList.all isD = false ∨ 9 < W.toList.length ∨ W.toList = [] ∨ decF (valF W.toList) ≠ W.toList then none else some (valF W.toList)) := numF_eq W.toList
          obtain ⟨y, hy⟩ : ∃ y, numF W.toList = y := ⟨_, rfl⟩
          rw [hy] at HB HG HN
          clear hy HZ HA HM
          have HWL := Lib.hid (bytes_len W)
          obtain ⟨w2, hw2⟩ : ∃ q, q = wc := ⟨_, rfl⟩
          subst hw2
          go_wp2_with fail
          go_loopw [7, 8] (fun v i wq => ∃ pos : Nat, pos ≤ W.size ∧ pos ≤ 9 ∧ i = .int .i64 pos ∧ v = .int .i64 ((valF (W.toList.take pos) : Nat) : Int) ∧ Hid (∀ b ∈ W.toList.take pos, isD b = true) ∧ w2 = wq) (fun _ i _ => W.size - (intOf i).toNat)
          case atStart => exact ⟨0, Nat.zero_le _, by omega, rfl, rfl, by unfold Hid; simp, rfl⟩
          case round =>
            obtain ⟨pos, hps, hp9, rfl, rfl, hD, rfl⟩ := hrel
            by_cases hp : pos < W.size
            · have htk : W.toList.take (pos + 1) = W.toList.take pos ++ [W[pos]'hp] := by
                rw [List.take_add_one, bytes_get hp]
                rfl
              have hmem : (W[pos]'hp) ∈ W.toList := List.mem_of_getElem? (bytes_get hp)
              have hv3 : valF (W.toList.take pos) < 1000000000 := by
                have hd9 : ∀ b ∈ W.toList.take pos, sdig b = true := by rw [sdig_eq]; exact hD.out
                have hv := worth_lt _ hd9
                have : (W.toList.take pos).length ≤ 9 := by rw [List.length_take]; omega
                have h10 : 10 ^ (W.toList.take pos).length ≤ 10 ^ 9 := Nat.pow_le_pow_right (by omega) this
                exact Nat.lt_of_lt_of_le hv h10
              have hsn : valF (W.toList.take (pos + 1)) = 10 * valF (W.toList.take pos) + ((W[pos]'hp).toNat - 48) := by rw [htk, valF_snoc]
              obtain ⟨V, hV⟩ : ∃ V, valF (W.toList.take pos) = V := ⟨_, rfl⟩
              rw [hV] at hsn hv3 ⊢
              have HSN := Lib.hid hsn
              have HTK := Lib.hid htk
              have HMem := Lib.hid hmem
              have p0 : (0 : Int) ≤ pos := by omega
              have p1 : (pos : Int) < W.size := by omega
              have hbd : isD (W[pos]'hp) = true ↔ 48 ≤ (W[pos]'hp).toNat ∧ (W[pos]'hp).toNat ≤ 57 := by
                unfold isD
                simp
              clear hsn htk hmem hV
              by_cases hd : isD (W[pos]'hp) = true
              · have hd2 := hbd.1 hd
                have HD : Hid (isD (W[pos]'hp) = true) := hd
                have m1 : ¬ (((W[pos]'hp).toNat : Int) < 48) := by omega
                have m2 : ¬ ((57 : Int) < (W[pos]'hp).toNat) := by omega
                clear hd hbd
                by_cases h3 : 8 < pos
                · have m3 : (8 : Int) < pos := by omega
                  have HZ : Hid (z = none) := by
                    refine HB.out ?_
                    have := HN.out
                    rwa [if_pos] at this
                    right
                    left
                    have := HWL.out
                    omega
                  clear HN HB HG
                  go_wp2_with fail
                  go_ret2
                  rw [HZ.out]
                  exact ⟨hkept, rfl⟩
                · have m3 : ¬ (8 : Int) < pos := by omega
                  obtain ⟨B, hB⟩ : ∃ B, (W[pos]'hp).toNat = B := ⟨_, rfl⟩
                  rw [hB] at hd2
                  have HB2 := Lib.hid hB
                  have m4 : IntKind.i64.wrap (10 * (V : Int)) = 10 * (V : Int) := IntWalk.i64_in _ (by omega)
                  have m5 : IntKind.u8.wrap ((B : Int) - 48) = (B : Int) - 48 := by
                    simp [IntKind.wrap, IntKind.bits, IntKind.signed]
                    omega
                  have m6 : IntKind.i64.wrap ((B : Int) - 48) = (B : Int) - 48 := IntWalk.i64_in _ (by omega)
                  have m7 : IntKind.i64.wrap (10 * (V : Int) + ((B : Int) - 48)) = 10 * (V : Int) + ((B : Int) - 48) := IntWalk.i64_in _ (by omega)
                  go_wp2_with fail
                  go_roundw
                  case rel =>
                    refine ⟨pos + 1, hp, by omega, by go_num, ?_, ?_, by trivial⟩
                    · rw [HSN.out, HB2.out]
                      congr 1
                      omega
                    · unfold Hid
                      rw [HTK.out]
                      intro x hx
                      rcases List.mem_append.1 hx with hx | hx
                      · exact hD.out x hx
                      · rw [List.mem_singleton.1 hx]
                        exact HD.out
                  case measure =>
                    simp [intOf]
                    omega
              · have HZ : Hid (z = none) := by
                  refine HB.out ?_
                  have := HN.out
                  rwa [if_pos] at this
                  left
                  rw [Bool.eq_false_iff]
                  intro e
                  exact hd (List.all_eq_true.1 e _ HMem.out)
                have hor : (W[pos]'hp).toNat < 48 ∨ 57 < (W[pos]'hp).toNat := by
                  rcases Nat.lt_or_ge (W[pos]'hp).toNat 48 with g | g
                  · exact .inl g
                  · right
                    rcases Nat.lt_or_ge 57 (W[pos]'hp).toNat with g2 | g2
                    · exact g2
                    · exact absurd (hbd.2 ⟨g, g2⟩) hd
                clear hd hbd HN HB HG
                rcases hor with g | g
                · have m1 : (((W[pos]'hp).toNat : Int) < 48) := by omega
                  go_wp2_with fail
                  go_ret2
                  rw [HZ.out]
                  exact ⟨hkept, rfl⟩
                · have m1 : ¬ (((W[pos]'hp).toNat : Int) < 48) := by omega
                  have m2 : ((57 : Int) < (W[pos]'hp).toNat) := by omega
                  go_wp2_with fail
                  go_ret2
                  rw [HZ.out]
                  exact ⟨hkept, rfl⟩
            · obtain rfl : pos = W.size := by omega
              have htk : W.toList.take W.size = W.toList := List.take_of_length_le (by have := HWL.out; omega)
              rw [htk] at hD ⊢
              have hall : W.toList.all isD = true := List.all_eq_true.2 hD.out
              have hv3 : valF W.toList < 1000000000 := by
                have hd9 : ∀ b ∈ W.toList, sdig b = true := by rw [sdig_eq]; exact hD.out
                have hv := worth_lt _ hd9
                have : W.toList.length ≤ 9 := by have := HWL.out; omega
                have h10 : 10 ^ W.toList.length ≤ 10 ^ 9 := Nat.pow_le_pow_right (by omega) this
                exact Nat.lt_of_lt_of_le hv h10
              obtain ⟨V, hV⟩ : ∃ V, valF W.toList = V := ⟨_, rfl⟩
              rw [hV] at hv3 HN ⊢
              clear hV htk
              by_cases h0 : W.toList = []
              · have HZ : Hid (z = none) := by
                  refine HB.out ?_
                  have := HN.out
                  rwa [if_pos (.inr (.inr (.inl h0)))] at this
                have e3 : (W.toList == []) = true := by rw [h0]; rfl
                have e2 : W.toList.isEmpty = true := by rw [h0]; rfl
                clear HN h0 hall HB HG
                go_wp2_with fail
                go_ret2
                rw [HZ.out]
                exact ⟨hkept, rfl⟩
              · have e3 : (W.toList == []) = false := by simpa using h0
                have e2 : W.toList.isEmpty = false := by
                  cases hz : W.toList with
                  | nil => exact absurd hz h0
                  | cons _ _ => rfl
                have hnum := pnum_any (V + 1) V w2 (by omega) hv3
                have hds := dS_list V
                generalize dS V = D at hnum hds
                have HNU := Lib.hid hnum
                clear hnum
                by_cases he : decF V = W.toList
                · have HY : Hid (PAt s.toList (k + 1) [] (N ++ [V])) := by
                    refine HG.out V ?_
                    have := HN.out
                    rwa [if_neg] at this
                    rintro (g | g | g | g)
                    · rw [hall] at g
                      cases g
                    · have := HWL.out
                      omega
                    · exact h0 g
                    · exact g he
                  have e4 : (D.toList == W.toList) = true := by rw [hds, he]; simp
                  have e5 : (D.toList != W.toList) = false := by rw [hds, he]; simp
                  clear HN h0 hall he hds HB HG
                  go_wp2_with fail
                  refine HNU.out.mono ?_
                  rintro e w3 ⟨rfl, k3⟩
                  have hk3 := hkept.trans k3
                  have hown3 := own_kept hown k3
                  go_wp2_with (at_builtin; refine wpList_push w (by rfl) _ _ (by rfl) appT_its (by rfl) hown3 hk3 (by rfl) ?_ ?_; (exact ⟨by rfl, by rfl, by rfl, by omega⟩); intro v' w4 hown4 hk4 hgr4 hob4)
                  go_roundw
                  case rel => exact ⟨k + 1, ⟨#[]⟩, N ++ [V], by omega, by go_num, rfl, Nat.zero_le _, by simp; omega, by rw [List.map_append, List.length_append]; exact hown4, hk4, by unfold Hid; rw [e0]; exact HY.out⟩
                  case measure =>
                    simp [intOf]
                    omega
                · have HZ : Hid (z = none) := by
                    refine HB.out ?_
                    have := HN.out
                    rwa [if_pos (.inr (.inr (.inr he)))] at this
                  have e4 : (D.toList == W.toList) = false := by rw [hds]; simpa using he
                  have e5 : (D.toList != W.toList) = true := by rw [hds]; simpa using he
                  clear HN h0 hall he hds HB HG
                  go_wp2_with fail
                  refine HNU.out.mono ?_
                  rintro e w3 ⟨rfl, k3⟩
                  go_wp2_with fail
                  go_ret2
                  rw [HZ.out]
                  exact ⟨hkept.trans k3, rfl⟩
      · have l1 : ¬ (k : Int) ≤ s.size := by omega
        have HZ2 : Hid (z = some N) := by
          rcases HA.out with ⟨h1, _⟩ | ⟨_, _, h2⟩
          · have := HL.out
            omega
          · exact HZ.out.trans h2
        obtain ⟨NA, NC, hNv, hNs⟩ := Sl.of_own hown
        subst hNv
        clear HZ
        go_wp2_with fail
        go_ret2
        rw [HZ2.out]
        exact ⟨hkept, NA, NC, rfl, hNs, own_base hown⟩
end Go.Proofs.YtmcmicgdkdbgjaaDoor
