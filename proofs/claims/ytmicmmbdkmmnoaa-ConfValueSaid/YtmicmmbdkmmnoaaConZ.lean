/- The document's numbers and words of configs: walked. -/
import Derived.Test.YtmicmmbdkmmnoaaConX
namespace Go.Proofs.Ytmicmmbdkmmnoaa
open Go.RowKit
attribute [local go_sem ↓] Go.wp_at_zero Go.wp_at_succ

/-- A number's digits as a text. -/
def dS (n : Nat) : ByteArray := ⟨(decF n).toArray⟩
theorem dS_list (n : Nat) : (dS n).toList = decF n := by
  rw [ByteArray.toList_eq]
  rfl
theorem cstr_eq {a b : ByteArray} (h : a.toList = b.toList) : a = b := by
  rw [ByteArray.toList_eq, ByteArray.toList_eq] at h
  exact ByteArray.ext (Array.toList_inj.1 h)
theorem toList_app (a b : ByteArray) : (a ++ b).toList = a.toList ++ b.toList := by
  rw [ByteArray.toList_eq, ByteArray.toList_eq, ByteArray.toList_eq, ByteArray.data_append]
  simp
theorem strOf1 (k : Nat) : (strOfNums [48 + (k : Int) % 10]).toList = [UInt8.ofNat (48 + k % 10)] := by
  rw [show (48 + (k : Int) % 10) = ((48 + k % 10 : Nat) : Int) by omega, ByteArray.toList_eq]
  rfl
set_option maxRecDepth 100000 in
set_option maxHeartbeats 2000000 in
theorem rnum_any (N : Nat) (w : World) (hN : N ≤ 100000) : Calls Try.prog 35 #[.int .i64 N] w fun e w' => e = .returned (.string (dS N)) ∧ Kept w w' := by
  go_enter Try.func35, Try.ntmps35
  go_wp2_with fail
  go_loopw [0, 3] (fun x s wr => ∃ (n : Nat) (t : ByteArray), t.size + n ≤ 100000 ∧ x = .int .i64 n ∧ s = .string t ∧ Kept w wr ∧ Hid (decF N = decF n ++ t.toList)) (fun x _ _ => (intOf x).toNat)
  case atStart => exact ⟨N, ⟨#[]⟩, by show 0 + N ≤ 100000; omega, rfl, rfl, Kept.refl _, by unfold Hid; rw [ByteArray.toList_eq]; simp⟩
  case round =>
    obtain ⟨n, t, hts, rfl, rfl, hk, hinv⟩ := hrel
    have hS := Sl.lit1 (w := wr) (t := 5) (enc := Value.int .u8) (cs := [.int .u8 (48 + (n : Int) % 10)]) (n := 1) (l := [48 + (n : Int) % 10]) rfl rfl (by omega)
    have hcv := run_str (P := Try.prog) Try.underlying89 Try.underlying5 Try.underlying9 hS
    have h1 := strOf1 n
    have h2 : (strOfNums [48 + (n : Int) % 10]).size = 1 := by
      rw [← bytes_len, h1]
      rfl
    generalize strOfNums [48 + (n : Int) % 10] = d at hcv h1 h2
    have H1 := Lib.hid h1
    clear h1 hS
    by_cases h10 : n < 10
    · have hq : (n : Int) / 10 = 0 := by omega
      have hd := decF_lt h10
      have HD := Lib.hid hd
      clear hd
      go_wp2_with fail
      go_ret
      refine ⟨congrArg (fun x => Ending.returned (.string x)) ?_, hk.alloc _⟩
      apply cstr_eq
      rw [toList_app, dS_list, hinv.out, HD.out, H1.out, Nat.mod_eq_of_lt h10]
    · obtain ⟨m, hm⟩ : ∃ m : Int, (n : Int) / 10 = m := ⟨_, rfl⟩
      have hm2 : (m == 0) = false := by
        rw [Bool.eq_false_iff]
        intro e
        have := beq_iff_eq.1 e
        omega
      have HM : Hid (m = ((n / 10 : Nat) : Int) ∧ 0 < n / 10) := ⟨by omega, by omega⟩
      have hd := decF_ge h10
      have HD := Lib.hid hd
      clear hd
      go_wp2_with fail
      go_roundw
      case rel =>
        refine ⟨n / 10, d ++ t, by rw [ByteArray.size_append]; omega, by rw [HM.out.1], rfl, hk.alloc _, ?_⟩
        unfold Hid
        rw [hinv.out, HD.out, toList_app, H1.out, List.append_assoc]
      case measure =>
        have := HM.out
        simp [intOf]
        omega

def valI : Option Nat → Int
  | none => -1
  | some n => n
set_option maxRecDepth 100000 in
set_option maxHeartbeats 4000000 in
theorem rvalue_any (s : ByteArray) (w : World) (hs : s.size ≤ 1000000) : Calls Try.prog 47 #[.string s] w fun e w' => e = .returned (.int .i64 (valI (cnumF s.toList))) ∧ Kept w w' := by
  have HN : Hid (cnumF s.toList = if s.toList.all isD = false ∨ 4 < s.toList.length ∨ s.toList = [] ∨ decF (valF s.toList) ≠ s.toList then none else some (valF s.toList)) := (valR_eq s.toList).symm
  obtain ⟨z, hz⟩ : ∃ z, cnumF s.toList = z := ⟨_, rfl⟩
  rw [hz] at HN ⊢
  clear hz
  have HL := Lib.hid (bytes_len s)
  go_enter Try.func47, Try.ntmps47
  go_wp2_with fail
  go_loopw [3, 4] (fun v i wr => ∃ pos : Nat, pos ≤ s.size ∧ pos ≤ 4 ∧ i = .int .i64 pos ∧ v = .int .i64 ((valF (s.toList.take pos) : Nat) : Int) ∧ Hid (∀ b ∈ s.toList.take pos, isD b = true) ∧ w = wr) (fun _ i _ => s.size - (intOf i).toNat)
  case atStart => exact ⟨0, Nat.zero_le _, by omega, rfl, rfl, by unfold Hid; simp, rfl⟩
  case round =>
    obtain ⟨pos, hps, hp4, rfl, rfl, hD, rfl⟩ := hrel
    by_cases hp : pos < s.size
    · have htk : s.toList.take (pos + 1) = s.toList.take pos ++ [s[pos]'hp] := by
        rw [List.take_add_one, bytes_get hp]
        rfl
      have hmem : (s[pos]'hp) ∈ s.toList := List.mem_of_getElem? (bytes_get hp)
      have hv := valF_lt _ hD.out
      have hv3 : valF (s.toList.take pos) < 10000 := by
        have : (s.toList.take pos).length ≤ 4 := by rw [List.length_take]; omega
        have h10 : 10 ^ (s.toList.take pos).length ≤ 10 ^ 4 := Nat.pow_le_pow_right (by omega) this
        omega
      have hsn : valF (s.toList.take (pos + 1)) = 10 * valF (s.toList.take pos) + ((s[pos]'hp).toNat - 48) := by rw [htk, valF_snoc]
      obtain ⟨V, hV⟩ : ∃ V, valF (s.toList.take pos) = V := ⟨_, rfl⟩
      rw [hV] at hsn hv3 ⊢
      have HSN := Lib.hid hsn
      have HTK := Lib.hid htk
      have HMem := Lib.hid hmem
      have p0 : (0 : Int) ≤ pos := by omega
      have p1 : (pos : Int) < s.size := by omega
      clear hsn htk hmem hv hV
      have hbd := isD_iff (s[pos]'hp)
      by_cases hd : isD (s[pos]'hp) = true
      · have hd2 := hbd.1 hd
        have HD : Hid (isD (s[pos]'hp) = true) := hd
        have m1 : ¬ (((s[pos]'hp).toNat : Int) < 48) := by omega
        have m2 : ¬ ((57 : Int) < (s[pos]'hp).toNat) := by omega
        clear hd hbd
        by_cases h3 : 3 < pos
        · have m3 : (3 : Int) < pos := by omega
          have HZ : Hid (z = none) := by
            have := HN.out
            rwa [if_pos] at this
            right
            left
            have := HL.out
            omega
          clear HN
          go_wp2_with fail
          go_ret
          exact ⟨by rw [HZ.out]; rfl, Kept.refl _⟩
        · have m3 : ¬ (3 : Int) < pos := by omega
          obtain ⟨B, hB⟩ : ∃ B, (s[pos]'hp).toNat = B := ⟨_, rfl⟩
          rw [hB] at hd2
          have HB := Lib.hid hB
          have m4 : IntKind.i64.wrap (10 * (V : Int)) = 10 * (V : Int) := IntWalk.i64_in _ (by omega)
          have m5 : IntKind.i64.wrap (10 * (V : Int) + B) = 10 * (V : Int) + B := IntWalk.i64_in _ (by omega)
          have m6 : IntKind.i64.wrap (10 * (V : Int) + B - 48) = 10 * (V : Int) + B - 48 := IntWalk.i64_in _ (by omega)
          go_wp2_with fail
          go_roundw
          case rel =>
            refine ⟨pos + 1, hp, by omega, by go_num, ?_, ?_, by trivial⟩
            · rw [HSN.out, HB.out]
              congr 1
              omega
            · unfold Hid
              rw [HTK.out]
              intro x hx
              rcases List.mem_append.1 hx with hx | hx
              · exact hD.out x hx
              · rw [List.mem_singleton.1 hx]
                exact HD.out
          case measure =>
            simp [intOf]
            omega
      · have HZ : Hid (z = none) := by
          have := HN.out
          rwa [if_pos] at this
          left
          rw [Bool.eq_false_iff]
          intro e
          exact hd (List.all_eq_true.1 e _ HMem.out)
        have hor : (s[pos]'hp).toNat < 48 ∨ 57 < (s[pos]'hp).toNat := by
          rcases Nat.lt_or_ge (s[pos]'hp).toNat 48 with g | g
          · exact .inl g
          · right
            rcases Nat.lt_or_ge 57 (s[pos]'hp).toNat with g2 | g2
            · exact g2
            · exact absurd (hbd.2 ⟨g, g2⟩) hd
        clear hd hbd HN
        rcases hor with g | g
        · have m1 : (((s[pos]'hp).toNat : Int) < 48) := by omega
          go_wp2_with fail
          go_ret
          exact ⟨by rw [HZ.out]; rfl, Kept.refl _⟩
        · have m1 : ¬ (((s[pos]'hp).toNat : Int) < 48) := by omega
          have m2 : ((57 : Int) < (s[pos]'hp).toNat) := by omega
          go_wp2_with fail
          go_ret
          exact ⟨by rw [HZ.out]; rfl, Kept.refl _⟩
    · obtain rfl : pos = s.size := by omega
      have htk : s.toList.take s.size = s.toList := List.take_of_length_le (by have := HL.out; omega)
      rw [htk] at hD ⊢
      have hv := valF_lt _ hD.out
      have hall : s.toList.all isD = true := List.all_eq_true.2 hD.out
      have hv3 : valF s.toList < 10000 := by
        have : s.toList.length ≤ 4 := by have := HL.out; omega
        have h10 : 10 ^ s.toList.length ≤ 10 ^ 4 := Nat.pow_le_pow_right (by omega) this
        omega
      obtain ⟨V, hV⟩ : ∃ V, valF s.toList = V := ⟨_, rfl⟩
      rw [hV] at hv3 HN ⊢
      clear hv hV htk
      have hp4' : s.size ≤ 4 := hp4
      by_cases h0 : s.toList = []
      · have HZ : Hid (z = none) := by have := HN.out; rwa [if_pos (.inr (.inr (.inl h0)))] at this
        have e1 : (s.toList == []) = true := by rw [h0]; rfl
        have e2 : s.toList.isEmpty = true := by rw [h0]; rfl
        clear HN h0 hall
        go_wp2_with fail
        go_ret
        exact ⟨by rw [HZ.out]; rfl, Kept.refl _⟩
      · have e1 : (s.toList == []) = false := by simpa using h0
        have e2 : s.toList.isEmpty = false := by
          cases hz : s.toList with
          | nil => exact absurd hz h0
          | cons _ _ => rfl
        have hnum := rnum_any V w (by omega)
        have hds := dS_list V
        generalize dS V = D at hnum hds
        have HNU := Lib.hid hnum
        clear hnum
        by_cases he : decF V = s.toList
        · have HZ : Hid (z = some V) := by
            have := HN.out
            rwa [if_neg] at this
            rintro (g | g | g | g)
            · rw [hall] at g
              cases g
            · have := HL.out
              omega
            · exact h0 g
            · exact g he
          have e3 : (D.toList == s.toList) = true := by rw [hds, he]; simp
          clear HN h0 hall he hds
          go_wp2_with fail
          refine HNU.out.mono ?_
          rintro e w2 ⟨rfl, k2⟩
          go_wp2_with fail
          go_ret
          exact ⟨by rw [HZ.out]; rfl, k2⟩
        · have HZ : Hid (z = none) := by have := HN.out; rwa [if_pos (.inr (.inr (.inr he)))] at this
          have e3 : (D.toList == s.toList) = false := by rw [hds]; simpa using he
          clear HN h0 hall he hds
          go_wp2_with fail
          refine HNU.out.mono ?_
          rintro e w2 ⟨rfl, k2⟩
          go_wp2_with fail
          go_ret
          exact ⟨by rw [HZ.out]; rfl, k2⟩

/-! A word up to its sign =, and the number behind it. -/
def eqAt : Nat → List UInt8 → Option Nat
  | _, [] => none
  | k, b :: l => if b = 61 then some k else eqAt (k + 1) l
/-- Where a word's sign = stands. -/
def eqP (s : ByteArray) : Option Nat := eqAt 0 s.toList
theorem eqAt_bd : ∀ (l : List UInt8) (k j : Nat), eqAt k l = some j → k ≤ j ∧ j < k + l.length
  | [], k, j, h => by simp [eqAt] at h
  | b :: l, k, j, h => by
    unfold eqAt at h
    split at h
    · injection h with h
      subst h
      simp
    · have := eqAt_bd l (k + 1) j h
      simp
      omega
def keyR (s : ByteArray) : ByteArray := match eqP s with
  | some k => s.extract 0 k
  | none => s
def cnumR (s : ByteArray) : Option Nat := match eqP s with
  | some k => cnumF (s.extract (k + 1) s.size).toList
  | none => none
set_option maxRecDepth 100000 in
set_option maxHeartbeats 4000000 in
theorem rcut_any (s : ByteArray) (w : World) (hs : s.size ≤ 1000000) : Calls Try.prog 28 #[.string s] w fun e w' => e = .returned (.tuple #[.string (keyR s), .int .i64 (valI (cnumR s))]) ∧ Kept w w' := by
  have HK : Hid (keyR s = match eqP s with | some k => s.extract 0 k | none => s) := rfl
  have HM : Hid (cnumR s = match eqP s with | some k => cnumF (s.extract (k + 1) s.size).toList | none => none) := rfl
  obtain ⟨K, hK⟩ : ∃ K, keyR s = K := ⟨_, rfl⟩
  obtain ⟨M, hM⟩ : ∃ M, cnumR s = M := ⟨_, rfl⟩
  rw [hK] at HK
  rw [hM] at HM
  rw [hK, hM]
  clear hK hM
  have HL := Lib.hid (bytes_len s)
  go_enter Try.func28, Try.ntmps28
  go_wp2_with fail
  go_loopw [4] (fun i wr => ∃ pos : Nat, pos ≤ s.size ∧ i = .int .i64 pos ∧ Hid (eqP s = eqAt pos (s.toList.drop pos)) ∧ w = wr) (fun i _ => s.size - (intOf i).toNat)
  case atStart => exact ⟨0, Nat.zero_le _, rfl, rfl, rfl⟩
  case round =>
    obtain ⟨pos, hps, rfl, hinv, rfl⟩ := hrel
    by_cases hp : pos < s.size
    · have hdr : s.toList.drop pos = (s[pos]'hp) :: s.toList.drop (pos + 1) := by
        obtain ⟨h1, h2⟩ := List.getElem?_eq_some_iff.1 (bytes_get hp)
        rw [List.drop_eq_getElem_cons h1, h2]
      have hst := hinv.out
      rw [hdr] at hst
      have p0 : (0 : Int) ≤ pos := by omega
      have p1 : (pos : Int) < s.size := by omega
      have p2 : (pos : Int) ≤ s.size := by omega
      have p3 : (pos : Int) + 1 ≤ s.size := by omega
      have p4 : (0 : Int) ≤ (pos : Int) + 1 := by omega
      have p5 : ((pos : Int) + 1).toNat = pos + 1 := by omega
      have p6 : (pos : Int).toNat = pos := by omega
      have w1 : IntKind.i64.wrap ((pos : Int) + 1) = (pos : Int) + 1 := IntWalk.i64_in _ (by omega)
      by_cases hb : (s[pos]'hp) = 61
      · have hx : (((s[pos]'hp).toNat : Int) == 61) = true := by rw [hb]; rfl
        have hE : eqP s = some pos := by
          rw [hst]
          show (if _ then _ else _) = _
          rw [if_pos hb]
        have HK2 : Hid (K = s.extract 0 pos) := by have := HK.out; rw [hE] at this; exact this
        have HM2 : Hid (M = cnumF (s.extract (pos + 1) s.size).toList) := by have := HM.out; rw [hE] at this; exact this
        have hval := fun w' => rvalue_any (s.extract (pos + 1) s.size) w' (by rw [ByteArray.size_extract]; omega)
        obtain ⟨y, hy⟩ : ∃ y, valI (cnumF (s.extract (pos + 1) s.size).toList) = y := ⟨_, rfl⟩
        rw [hy] at hval
        have HV := Lib.hid hval
        have HY := Lib.hid hy
        clear hval hy hb hE hst hinv HK HM hdr
        go_upto_region 5 with fail
        refine wp_region_kept (by kernel_rfl) (by kernel_rfl) ?_
        repeat (quiet_step ((go_at_call 47; exact Calls.kept_of (HV.out _))))
        refine wpQuiet_nil ?_
        rintro _ ⟨⟨w5, k5⟩, rfl⟩
        go_wp2_with fail
        go_ret2
        exact ⟨by rw [HK2.out, HM2.out, HY.out]; rfl, k5⟩
      · have hx : (((s[pos]'hp).toNat : Int) == 61) = false := by
          rw [Bool.eq_false_iff]
          intro e
          have := beq_iff_eq.1 e
          apply hb
          apply UInt8.toNat_inj.1
          show s[pos].toNat = 61
          omega
        have hst2 : eqP s = eqAt (pos + 1) (s.toList.drop (pos + 1)) := by
          rw [hst]
          show (if _ then _ else _) = _
          rw [if_neg hb]
        have HST := Lib.hid hst2
        clear hst hst2 hb hinv hdr
        go_wp2_with fail
        go_roundw
        case rel => exact ⟨pos + 1, hp, by go_num, HST.out, by trivial⟩
        case measure =>
          simp [intOf]
          omega
    · obtain rfl : pos = s.size := by omega
      have hE : eqP s = none := by
        rw [hinv.out, List.drop_eq_nil_of_le (by have := HL.out; omega)]
        rfl
      have HK2 : Hid (K = s) := by have := HK.out; rw [hE] at this; exact this
      have HM2 : Hid (M = none) := by have := HM.out; rw [hE] at this; exact this
      clear hE HK HM hinv
      go_wp2_with fail
      go_ret2
      exact ⟨by rw [HK2.out, HM2.out]; rfl, Kept.refl _⟩
end Go.Proofs.Ytmicmmbdkmmnoaa
