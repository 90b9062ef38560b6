/- What stands behind a \: escaped, walked. -/
import Derived.Test.YtmcmicgdkdbgjaaDoorScrR
namespace Go.Proofs.YtmcmicgdkdbgjaaDoor
open Go.RowKit
attribute [local go_sem ↓] Go.wp_at_zero Go.wp_at_succ

def hexSigns : Bs := [48, 49, 50, 51, 52, 53, 54, 55, 56, 57, 97, 98, 99, 100, 101, 102]
def hexI (b : UInt8) : Int := match hexF b with
  | some n => (n : Int)
  | none => -1
theorem hex_fin : ∀ n : Fin 256, Lib.indexByte hexSigns n.val.toUInt8 = hexI n.val.toUInt8 := by decide +kernel
theorem hex_idx (b : UInt8) : Lib.indexByte hexSigns b = hexI b := by
  have h := hex_fin ⟨b.toNat, b.toNat_lt⟩
  have e : b.toNat.toUInt8 = b := by
    apply UInt8.toNat_inj.1
    show b.toNat % 256 = b.toNat
    have := b.toNat_lt
    omega
  rwa [e] at h
/-- What 'escaped' says. -/
def escV : Option (UInt8 × Nat) → Value
  | none => .tuple #[.int .u8 0, .int .i64 0]
  | some x => .tuple #[.int .u8 (x.1.toNat : Int), .int .i64 (x.2 : Int)]
theorem hexIdx_any (b : UInt8) (w : World) : Calls Tryd.prog 41 #[.string ⟨#[48, 49, 50, 51, 52, 53, 54, 55, 56, 57, 97, 98, 99, 100, 101, 102]⟩, .int .u8 (b.toNat : Int)] w fun e w' => e = .returned (.int .i64 (hexI b)) ∧ Kept w w' := by
  refine (lib_strings_IndexByte _ _ _).mono ?_
  rintro e w' ⟨he, rfl⟩
  refine ⟨?_, Kept.refl _⟩
  rw [he]
  have e1 : ((b.toNat : Int)).toNat.toUInt8 = b := by
    apply UInt8.toNat_inj.1
    show (b.toNat : Int).toNat % 256 = b.toNat
    have := b.toNat_lt
    omega
  rw [e1]
  exact ret_int (hex_idx b)
theorem or_fin : ∀ x y : Fin 16, bits BinOp.or IntKind.i64 ((x.val : Int) * 16) (y.val : Int) = ((16 * x.val + y.val : Nat) : Int) := by decide +kernel
theorem or_hex {x y : Nat} (hx : x < 16) (hy : y < 16) : bits BinOp.or IntKind.i64 ((x : Int) * 16) (y : Int) = ((16 * x + y : Nat) : Int) := or_fin ⟨x, hx⟩ ⟨y, hy⟩
set_option maxRecDepth 100000 in
set_option maxHeartbeats 4000000 in
theorem escaped_any (s : ByteArray) (w : World) (hs : s.size ≤ 1000000) : Calls Tryd.prog 22 #[.string s] w fun e w' => e = .returned (escV (escF s.toList)) ∧ Kept w w' := by
  have hlen := bytes_len s
  cases hl : s.toList with
  | nil =>
    have HZ : Hid (escF [] = none) := rfl
    have e1 : (s.toList == []) = true := by rw [hl]; rfl
    have e2 : s.toList.isEmpty = true := by rw [hl]; rfl
    clear hl hlen
    go_enter Tryd.func22, Tryd.ntmps22
    go_wp2_with fail
    go_ret2
    exact ⟨by rw [HZ.out]; rfl, Kept.refl _⟩
  | cons c r =>
    have hpos : 0 < s.size := by
      rw [← hlen, hl]
      simp
    have hc : s[0]'hpos = c := by
      have := bytes_get hpos
      rw [hl] at this
      exact (Option.some.inj this).symm
    have e1 : (s.toList == []) = false := by rw [hl]; rfl
    have e2 : s.toList.isEmpty = false := by rw [hl]; rfl
    have l0 : (0 : Int) < s.size := by omega
    by_cases h1 : c = 34 ∨ c = 92
    · have HZ : Hid (escF (c :: r) = some (c, 1)) := by
        unfold Hid
        rw [escF, if_pos h1]
      obtain ⟨B, hB⟩ : ∃ B, (s[0]'hpos).toNat = B := ⟨_, rfl⟩
      have HB : Hid (c.toNat = B) := by rw [← hc]; exact hB
      rcases h1 with h1 | h1
      · have m1 : ((B : Int) == 34) = true := by
          rw [← hB, hc, h1]
          rfl
        clear hl hlen hc h1
        go_enter Tryd.func22, Tryd.ntmps22
        go_wp2_with fail
        go_ret2
        exact ⟨by rw [HZ.out, escV, HB.out]; rfl, Kept.refl _⟩
      · have m1 : ((B : Int) == 34) = false := by
          rw [← hB, hc, h1]
          rfl
        have m2 : ((B : Int) == 92) = true := by
          rw [← hB, hc, h1]
          rfl
        clear hl hlen hc h1
        go_enter Tryd.func22, Tryd.ntmps22
        go_wp2_with fail
        go_ret2
        exact ⟨by rw [HZ.out, escV, HB.out]; rfl, Kept.refl _⟩
    · have g1 : (((s[0]'hpos).toNat : Int) == 34) = false := by
        rw [hc, Bool.eq_false_iff]
        intro e
        have := beq_iff_eq.1 e
        exact h1 (.inl (UInt8.toNat_inj.1 (by show _ = 34; omega)))
      have g2 : (((s[0]'hpos).toNat : Int) == 92) = false := by
        rw [hc, Bool.eq_false_iff]
        intro e
        have := beq_iff_eq.1 e
        exact h1 (.inr (UInt8.toNat_inj.1 (by show _ = 92; omega)))
      by_cases h2 : c = 120
      · have g3 : (((s[0]'hpos).toNat : Int) != 120) = false := by
          rw [hc, h2]
          rfl
        by_cases h3 : s.size < 3
        · have HZ : Hid (escF (c :: r) = none) := by
            unfold Hid
            rw [escF, if_neg h1, if_neg (by simpa using h2)]
            match r, hl with
            | [], _ => rfl
            | [_], _ => rfl
            | _ :: _ :: _, hl => rw [hl] at hlen; simp at hlen; omega
          have l1 : (s.size : Int) < 3 := by omega
          obtain ⟨B, hB⟩ : ∃ B, (s[0]'hpos).toNat = B := ⟨_, rfl⟩
          rw [hB] at g1 g2 g3
          clear hl hlen hc h1 h2
          go_enter Tryd.func22, Tryd.ntmps22
          go_wp2_with fail
          go_ret2
          exact ⟨by rw [HZ.out]; rfl, Kept.refl _⟩
        · have l1 : ¬ (s.size : Int) < 3 := by omega
          have l2 : (1 : Int) < s.size := by omega
          have l3 : (2 : Int) < s.size := by omega
          have q1 : 1 < s.size := by omega
          have q2 : 2 < s.size := by omega
          obtain ⟨a, b, t, hr⟩ : ∃ a b t, r = a :: b :: t := by
            match r, hl with
            | [], hl => rw [hl] at hlen; simp at hlen; omega
            | [_], hl => rw [hl] at hlen; simp at hlen; omega
            | a :: b :: t, _ => exact ⟨a, b, t, rfl⟩
          subst hr
          have ha : s[1]'q1 = a := by
            have := bytes_get q1
            rw [hl] at this
            exact (Option.some.inj this).symm
          have hb : s[2]'q2 = b := by
            have := bytes_get q2
            rw [hl] at this
            exact (Option.some.inj this).symm
          have HA := Lib.hid (fun w => hexIdx_any a w)
          have HB := Lib.hid (fun w => hexIdx_any b w)
          have HZ : Hid (escF (c :: a :: b :: t) = match hexF a, hexF b with
            | some x, some y => if 32 ≤ 16 * x + y ∧ 16 * x + y ≤ 126 then none else some (UInt8.ofNat (16 * x + y), 3)
            | _, _ => none) := by
            unfold Hid
            rw [escF, if_neg h1, if_neg (by simpa using h2)]
            rfl
          obtain ⟨B, hB⟩ : ∃ B, (s[0]'hpos).toNat = B := ⟨_, rfl⟩
          rw [hB] at g1 g2 g3
          clear hl hlen hc h1 h2 h3
          go_enter Tryd.func22, Tryd.ntmps22
          go_upto_region 7 with fail
          refine wp_region_kept (by kernel_rfl) (by kernel_rfl) ?_
          repeat (quiet_step ((go_at_call 41; first | with_reducible exact Calls.kept_of (HA.out _) | with_reducible exact Calls.kept_of (HB.out _))))
          refine wpQuiet_nil ?_
          rintro w4 ⟨⟨w4', k4⟩, hw4⟩
          obtain rfl : w4 = w4' := hw4
          cases hA : hexF a with
          | none =>
            have vA : hexI a = -1 := by unfold hexI; rw [hA]
            have HE : Hid (escF (c :: a :: b :: t) = none) := by have := HZ.out; rw [hA] at this; exact this
            generalize hexI b = y
            clear HZ hA HA HB
            go_wp2_with fail
            go_ret2
            exact ⟨by rw [HE.out]; rfl, k4⟩
          | some x =>
            have hx := hexF_lt hA
            have vA : hexI a = (x : Int) := by unfold hexI; rw [hA]
            cases hB' : hexF b with
            | none =>
              have vB : hexI b = -1 := by unfold hexI; rw [hB']
              have HE : Hid (escF (c :: a :: b :: t) = none) := by have := HZ.out; rw [hA, hB'] at this; exact this
              clear HZ hA HA HB hB'
              go_wp2_with fail
              go_ret2
              exact ⟨by rw [HE.out]; rfl, k4⟩
            | some y =>
              have hy := hexF_lt hB'
              have vB : hexI b = (y : Int) := by unfold hexI; rw [hB']
              have HE : Hid (escF (c :: a :: b :: t) = if 32 ≤ 16 * x + y ∧ 16 * x + y ≤ 126 then none else some (UInt8.ofNat (16 * x + y), 3)) := by have := HZ.out; rw [hA, hB'] at this; exact this
              have ho := or_hex hx hy
              obtain ⟨v, hv⟩ : ∃ v, 16 * x + y = v := ⟨_, rfl⟩
              rw [hv] at ho HE
              have hv2 : (v : Int) % 256 = (v : Int) := by omega
              have hvb : v < 256 := by omega
              have hw : wrap64 ((x : Int) * 16) = (x : Int) * 16 := by
                simp [wrap64]
                omega
              clear HZ hA HA HB hB' hx hy hv
              have HV : Hid (∀ z : Int, z = v → Ending.returned (.tuple #[.int .u8 z, .int .i64 3]) = Ending.returned (escV (some (UInt8.ofNat v, 3)))) := by
                intro z hz
                subst hz
                have : (UInt8.ofNat v).toNat = v := Nat.mod_eq_of_lt hvb
                rw [escV, this]
                rfl
              by_cases c1 : 32 ≤ v
              · have i1 : (32 : Int) ≤ v := by omega
                by_cases c2 : v ≤ 126
                · have i2 : (v : Int) ≤ 126 := by omega
                  have HF : Hid (escF (c :: a :: b :: t) = none) := by rw [HE.out, if_pos ⟨c1, c2⟩]; rfl
                  clear HE
                  go_wp2_with fail
                  go_ret2
                  exact ⟨by rw [HF.out]; rfl, k4⟩
                · have i2 : ¬ (v : Int) ≤ 126 := by omega
                  have HF : Hid (escF (c :: a :: b :: t) = some (UInt8.ofNat v, 3)) := by rw [HE.out, if_neg (fun h => c2 h.2)]; rfl
                  clear HE
                  go_wp2_with fail
                  go_ret2
                  exact ⟨by rw [HF.out]; exact HV.out _ rfl, k4⟩
              · have i1 : ¬ (32 : Int) ≤ v := by omega
                have HF : Hid (escF (c :: a :: b :: t) = some (UInt8.ofNat v, 3)) := by rw [HE.out, if_neg (fun h => c1 h.1)]; rfl
                clear HE
                go_wp2_with fail
                go_ret2
                exact ⟨by rw [HF.out]; exact HV.out _ rfl, k4⟩
      · have g3 : (((s[0]'hpos).toNat : Int) != 120) = true := by
          rw [hc]
          simp
          intro e
          exact h2 (UInt8.toNat_inj.1 (by show _ = 120; omega))
        have HZ : Hid (escF (c :: r) = none) := by
          unfold Hid
          rw [escF, if_neg h1, if_pos h2]
        obtain ⟨B, hB⟩ : ∃ B, (s[0]'hpos).toNat = B := ⟨_, rfl⟩
        rw [hB] at g1 g2 g3
        clear hl hlen hc h1 h2
        go_enter Tryd.func22, Tryd.ntmps22
        go_wp2_with fail
        go_ret2
        exact ⟨by rw [HZ.out]; rfl, Kept.refl _⟩
end Go.Proofs.YtmcmicgdkdbgjaaDoor
