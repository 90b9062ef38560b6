/- A text in quotes, read: script.Read, walked. -/
import Derived.Test.YtmcmicgdkdbgjaaDoorScrA
namespace Go.Proofs.YtmcmicgdkdbgjaaDoor
open Go.RowKit
attribute [local go_sem ↓] Go.wp_at_zero Go.wp_at_succ

theorem appT_by : AppT Tryd.prog 49 5 1 := appT_mk (z := .int .u8 0) (bytes := 1) Tryd.underlying49 (by kernel_rfl) rfl (by omega) (by omega)
def byV (b : UInt8) : Value := .int .u8 (b.toNat : Int)
def strB (l : Bs) : ByteArray := ⟨l.toArray⟩
theorem strB_list (l : Bs) : (strB l).toList = l := by
  rw [ByteArray.toList_eq]
  rfl
theorem str_nums (l : Bs) : strOfNums (l.map fun b => (b.toNat : Int)) = strB l := by
  unfold strOfNums strB
  congr 2
  rw [List.map_map]
  conv => rhs; rw [← List.map_id l]
  refine List.map_congr_left fun b _ => ?_
  show UInt8.ofNat ((b.toNat : Int)).toNat = b
  rw [Int.toNat_natCast]
  exact UInt8.ofNat_toNat
/-- What Read says. -/
def readV : Option (Bs × Nat) → Value
  | none => .tuple #[.string ⟨#[]⟩, .int .i64 0, .bool false]
  | some x => .tuple #[.string (strB x.1), .int .i64 (x.2 : Int), .bool true]
theorem ext_end (s : ByteArray) (i : Nat) : (s.extract i s.size).toList = s.toList.drop i := by
  rw [ByteArray.toList_eq, ByteArray.toList_eq, ByteArray.data_extract, Array.toList_extract]
  have e : s.size = s.data.toList.length := rfl
  rw [e]
  simp [List.take_of_length_le]
/-- Where the reader stands. -/
def RAt (S : Bs) (i : Nat) (O : Bs) : Prop := readF S = (readS (S.drop i) 0).map fun x => (O ++ x.1, x.2 + i)
theorem RAt.start {c : UInt8} {r : Bs} (h : c = 34) : RAt (c :: r) 1 [] := by
  unfold RAt
  rw [readF, if_pos h]
  rfl
theorem drop_at {S : Bs} {i : Nat} {b : UInt8} (h : S[i]? = some b) : S.drop i = b :: S.drop (i + 1) := by
  obtain ⟨h1, h2⟩ := List.getElem?_eq_some_iff.1 h
  rw [List.drop_eq_getElem_cons h1, h2]
theorem RAt.done {S O : Bs} {i : Nat} (h : RAt S i O) (hb : S[i]? = some 34) : readF S = some (O, i + 1) := by
  rw [h, drop_at hb, readS, if_pos rfl]
  simp
  omega
theorem RAt.more {S O : Bs} {i : Nat} {b : UInt8} (h : RAt S i O) (hb : S[i]? = some b) (h1 : b ≠ 34) (h2 : b ≠ 92) (h3 : ¬ (b.toNat < 32 ∨ 126 < b.toNat)) : RAt S (i + 1) (O ++ [b]) := by
  unfold RAt
  rw [h, drop_at hb, readS, if_neg h1, if_neg h2, if_neg h3, Option.map_map]
  congr 1
  funext x
  simp
  omega
theorem RAt.bad {S O : Bs} {i : Nat} {b : UInt8} (h : RAt S i O) (hb : S[i]? = some b) (h3 : b.toNat < 32 ∨ 126 < b.toNat) : readF S = none := by
  have h1 : b ≠ 34 := fun e => by rw [e] at h3; exact absurd h3 (by decide)
  have h2 : b ≠ 92 := fun e => by rw [e] at h3; exact absurd h3 (by decide)
  rw [h, drop_at hb, readS, if_neg h1, if_neg h2, if_pos h3]
  rfl
theorem RAt.esc_no {S O : Bs} {i : Nat} (h : RAt S i O) (hb : S[i]? = some 92) (he : escF (S.drop (i + 1)) = none) : readF S = none := by
  rw [h, drop_at hb, readS, if_neg (by decide), if_pos rfl, he]
  rfl
theorem RAt.esc {S O : Bs} {i k : Nat} {b : UInt8} (h : RAt S i O) (hb : S[i]? = some 92) (he : escF (S.drop (i + 1)) = some (b, k)) : RAt S (i + k + 1) (O ++ [b]) := by
  have hle := (escF_le he).2
  unfold RAt
  rw [h, drop_at hb, readS, if_neg (by decide), if_pos rfl, he]
  dsimp only
  rw [readS_skip _ k hle, List.drop_drop, Option.map_map, Option.map_map, show i + 1 + k = i + k + 1 by omega]
  congr 1
  funext x
  simp
  omega
theorem RAt.last {S O : Bs} {i : Nat} (h : RAt S i O) (hi : S.length ≤ i) : readF S = none := by
  rw [h, List.drop_eq_nil_of_le hi]
  rfl
set_option maxRecDepth 100000 in
set_option maxHeartbeats 4000000 in
theorem sread_any (s : ByteArray) (w : World) (hs : s.size ≤ 1000000) : Calls Tryd.prog 8 #[.string s] w fun e w' => e = .returned (readV (readF s.toList)) ∧ Kept w w' := by
  have HL := Lib.hid (bytes_len s)
  cases hl : s.toList with
  | nil =>
    have HZ : Hid (readF [] = none) := rfl
    have e1 : (s.toList == []) = true := by rw [hl]; rfl
    have e2 : s.toList.isEmpty = true := by rw [hl]; rfl
    clear hl
    go_enter Tryd.func8, Tryd.ntmps8
    go_wp2_with fail
    refine bodyPost_ret (v := readV none) (by simp [results, Tryd.results8, go_sem, readV]) rfl ⟨by rw [HZ.out], Kept.refl _⟩
  | cons c r =>
    have hpos : 0 < s.size := by
      rw [← HL.out, hl]
      simp
    have hc : s[0]'hpos = c := by
      have := bytes_get hpos
      rw [hl] at this
      exact (Option.some.inj this).symm
    have e1 : (s.toList == []) = false := by rw [hl]; rfl
    have e2 : s.toList.isEmpty = false := by rw [hl]; rfl
    have l0 : (0 : Int) < s.size := by omega
    by_cases h34 : c = 34
    · have m1 : (((s[0]'hpos).toNat : Int) != 34) = false := by
        rw [hc, h34]
        rfl
      obtain ⟨B, hB⟩ : ∃ B, (s[0]'hpos).toNat = B := ⟨_, rfl⟩
      rw [hB] at m1
      have HST : Hid (RAt s.toList 1 []) := by
        rw [hl]
        exact RAt.start h34
      rw [← hl]
      clear hl hc h34
      go_enter Tryd.func8, Tryd.ntmps8
      go_wp2_with fail
      go_loopw [5, 6] (fun v i wr => ∃ (k : Nat) (O : Bs), 1 ≤ k ∧ k ≤ s.size ∧ i = .int .i64 k ∧ O.length ≤ k ∧ wr.ownsRow w.heap.size 5 1 v O.length (O.map byV) ∧ Kept w wr ∧ Hid (RAt s.toList k O)) (fun _ i _ => s.size - (intOf i).toNat)
      case atStart => exact ⟨1, [], Nat.le_refl _, by omega, rfl, Nat.zero_le _, ⟨rfl, .inl ⟨rfl, rfl⟩⟩, Kept.refl _, HST⟩
      case round =>
        clear HST m1
        obtain ⟨k, O, hk1, hks, rfl, hOk, hown, hkept, HR⟩ := hrel
        have s1 : IntKind.i64.wrap ((k : Int) + 1) = (k : Int) + 1 := IntWalk.i64_in _ (by omega)
        by_cases hlt : k < s.size
        · have l1 : (k : Int) < s.size := by omega
          have l2 : (0 : Int) ≤ k := by omega
          obtain ⟨b, hb⟩ : ∃ b, s[k]'hlt = b := ⟨_, rfl⟩
          have hget : s.toList[k]? = some b := by rw [bytes_get hlt, hb]
          have HGET := Lib.hid hget
          have hbl := b.toNat_lt
          by_cases c1 : b = 34
          · have m1 : ((b.toNat : Int) == 34) = true := by rw [c1]; rfl
            have HZ : Hid (readF s.toList = some (O, k + 1)) := HR.out.done (by rw [hget, c1])
            obtain ⟨VA, VC, rfl, hV⟩ := Sl.of_own hown
            have hV2 : Sl wr 1 VA O.length VC ((O.map fun b => (b.toNat : Int)).map (Value.int .u8)) := by
              rw [List.map_map]
              exact hV
            have hcv := run_str (P := Tryd.prog) Tryd.underlying49 Tryd.underlying5 Tryd.underlying9 hV2
            rw [str_nums] at hcv
            clear hV2 hget c1
            go_wp2_with fail
            refine bodyPost_ret (v := readV (some (O, k + 1))) (by simp [results, Tryd.results8, go_sem, readV]) rfl ⟨by rw [HZ.out], hkept⟩
          · have m1 : ((b.toNat : Int) == 34) = false := by
              rw [Bool.eq_false_iff]
              intro e
              have := beq_iff_eq.1 e
              exact c1 (UInt8.toNat_inj.1 (by show _ = 34; omega))
            by_cases c2 : b = 92
            · have m2 : ((b.toNat : Int) == 92) = true := by rw [c2]; rfl
              have l3 : (0 : Int) ≤ (k : Int) + 1 := by omega
              have l4 : (k : Int) + 1 ≤ s.size := by omega
              have l6 : ((k : Int) + 1).toNat = k + 1 := by omega
              have hX := ext_end s (k + 1)
              have hXs : (s.extract (k + 1) s.size).size ≤ 1000000 := by rw [ByteArray.size_extract]; omega
              have HE := escaped_any (s.extract (k + 1) s.size) wr hXs
              rw [hX] at HE
              have hlen : (s.toList.drop (k + 1)).length ≤ s.size - (k + 1) := by rw [List.length_drop, HL.out]; omega
              rw [c2] at hget
              cases he : escF (s.toList.drop (k + 1)) with
              | none =>
                have HZ : Hid (readF s.toList = none) := HR.out.esc_no hget he
                rw [he] at HE
                have HE0 : Hid (Calls Tryd.prog 22 #[.string (s.extract (k + 1) s.size)] wr fun e w' => e = .returned (.tuple #[.int .u8 0, .int .i64 0]) ∧ Kept wr w') := HE
                clear HE hget c2 hX hXs hlen he
                go_wp2_with fail
                refine HE0.out.mono ?_
                rintro e w2 ⟨rfl, k2⟩
                go_wp2_with fail
                refine bodyPost_ret (v := readV none) (by simp [results, Tryd.results8, go_sem, readV]) rfl ⟨by rw [HZ.out], hkept.trans k2⟩
              | some q =>
                obtain ⟨y, n⟩ := q
                have hn := escF_le he
                have HN : Hid (RAt s.toList (k + n + 1) (O ++ [y])) := HR.out.esc hget he
                rw [he] at HE
                have HE0 : Hid (Calls Tryd.prog 22 #[.string (s.extract (k + 1) s.size)] wr fun e w' => e = .returned (.tuple #[.int .u8 (y.toNat : Int), .int .i64 (n : Int)]) ∧ Kept wr w') := HE
                have n0 : ((n : Int) == 0) = false := by
                  rw [Bool.eq_false_iff]
                  intro e
                  have := beq_iff_eq.1 e
                  omega
                have s2 : IntKind.i64.wrap ((k : Int) + n) = ((k + n : Nat) : Int) := by
                  rw [← Int.natCast_add]
                  exact IntWalk.i64_in _ (by omega)
                have s3 : IntKind.i64.wrap (((k + n : Nat) : Int) + 1) = ((k + n + 1 : Nat) : Int) := by
                  rw [show ((k + n : Nat) : Int) + 1 = ((k + n + 1 : Nat) : Int) by omega]
                  exact IntWalk.i64_in _ (by omega)
                have hkn : k + n + 1 ≤ s.size := by omega
                obtain ⟨u, hu⟩ : ∃ u, k + n = u := ⟨_, rfl⟩
                rw [hu] at s2 s3 hkn HN
                have HU := Lib.hid (show k < u by omega)
                have hOu : O.length ≤ u := by omega
                clear HE hget c2 hX hXs hlen he hn hu
                go_wp2_with fail
                refine HE0.out.mono ?_
                rintro e w2 ⟨rfl, k2⟩
                have hk2 := hkept.trans k2
                have hown2 := own_kept hown k2
                go_wp2_with (at_builtin; refine wpList_push w (by rfl) _ _ (by rfl) appT_by (by rfl) hown2 hk2 (by rfl) ?_ ?_; (exact ⟨by rfl, by rfl, by rfl, by omega⟩); intro v' w3 hown3 hk3 hgr3 hob3)
                go_roundw
                case rel => exact ⟨u + 1, O ++ [y], by omega, hkn, rfl, by rw [List.length_append, List.length_singleton]; omega, by rw [List.map_append, List.length_append]; exact hown3, hk3, HN⟩
                case measure =>
                  have := HU.out
                  simp [intOf]
                  omega
            · have m2 : ((b.toNat : Int) == 92) = false := by
                rw [Bool.eq_false_iff]
                intro e
                have := beq_iff_eq.1 e
                exact c2 (UInt8.toNat_inj.1 (by show _ = 92; omega))
              by_cases c3 : b.toNat < 32 ∨ 126 < b.toNat
              · have HZ : Hid (readF s.toList = none) := HR.out.bad hget c3
                clear hget
                rcases c3 with c3 | c3
                · have m3 : (b.toNat : Int) < 32 := by omega
                  go_wp2_with fail
                  refine bodyPost_ret (v := readV none) (by simp [results, Tryd.results8, go_sem, readV]) rfl ⟨by rw [HZ.out], hkept⟩
                · have m3 : ¬ (b.toNat : Int) < 32 := by omega
                  have m4 : (126 : Int) < b.toNat := by omega
                  go_wp2_with fail
                  refine bodyPost_ret (v := readV none) (by simp [results, Tryd.results8, go_sem, readV]) rfl ⟨by rw [HZ.out], hkept⟩
              · have m3 : ¬ (b.toNat : Int) < 32 := by omega
                have m4 : ¬ (126 : Int) < b.toNat := by omega
                have HN : Hid (RAt s.toList (k + 1) (O ++ [b])) := HR.out.more hget c1 c2 c3
                clear hget c3
                go_wp2_with (at_builtin; refine wpList_push w (by rfl) _ _ (by rfl) appT_by (by rfl) hown hkept (by rfl) ?_ ?_; (exact ⟨by rfl, by rfl, by rfl, by omega⟩); intro v' w3 hown3 hk3 hgr3 hob3)
                go_roundw
                case rel => exact ⟨k + 1, O ++ [b], by omega, hlt, by go_num, by rw [List.length_append, List.length_singleton]; omega, by rw [List.map_append, List.length_append]; exact hown3, hk3, HN⟩
                case measure =>
                  simp [intOf]
                  omega
        · have l1 : ¬ (k : Int) < s.size := by omega
          have HZ : Hid (readF s.toList = none) := HR.out.last (by rw [HL.out]; omega)
          go_wp2_with fail
          refine bodyPost_ret (v := readV none) (by simp [results, Tryd.results8, go_sem, readV]) rfl ⟨by rw [HZ.out], hkept⟩
    · have m1 : (((s[0]'hpos).toNat : Int) != 34) = true := by
        rw [hc]
        simp
        intro e
        exact h34 (UInt8.toNat_inj.1 (by show _ = 34; omega))
      obtain ⟨B, hB⟩ : ∃ B, (s[0]'hpos).toNat = B := ⟨_, rfl⟩
      rw [hB] at m1
      have HZ : Hid (readF (c :: r) = none) := by
        unfold Hid
        rw [readF, if_neg h34]
      clear hl hc h34
      go_enter Tryd.func8, Tryd.ntmps8
      go_wp2_with fail
      refine bodyPost_ret (v := readV none) (by simp [results, Tryd.results8, go_sem, readV]) rfl ⟨by rw [HZ.out], Kept.refl _⟩
end Go.Proofs.YtmcmicgdkdbgjaaDoor
