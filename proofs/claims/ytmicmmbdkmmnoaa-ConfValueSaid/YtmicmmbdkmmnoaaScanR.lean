/- The reference's piece at the beginning of bytes (layer 1): what it computes is the decoder's. -/
import Derived.Test.YtmicmmbdkmmnoaaScanW
import Derived.Lib.MapLaws
namespace Go.Proofs.Ytmicmmbdkmmnoaa

/-- The number that n bytes tell. -/
def numF (n b0 b1 b2 b3 : Int) : Int := if n = 1 then b0 else if n = 2 then 64 * (b0 - 192) + b1 - 128 else if n = 3 then 64 * (64 * (b0 - 224) + b1 - 128) + b2 - 128 else 64 * (64 * (64 * (b0 - 240) + b1 - 128) + b2 - 128) + b3 - 128
/-- A rune's bytes, as the reference makes them. -/
def encF (v : Int) : List Int := if widthF v = 0 then [] else Lib.encodeRuneZ v
theorem encF_one {v : Int} (h0 : 0 ≤ v) (h1 : v < 128) : encF v = [v] := by
  unfold encF widthF
  rw [Lib.encodeRuneZ_one h0 (by omega)]
  simp
  omega
theorem encF_two {v : Int} (h0 : 128 ≤ v) (h1 : v < 2048) : encF v = [192 + v / 64, 128 + v % 64] := by
  unfold encF widthF
  rw [Lib.encodeRuneZ_two h0 (by omega), if_neg (show ¬ (v < 0 ∨ 1114111 < v ∨ 55296 ≤ v ∧ v ≤ 57343) by omega), if_neg (show ¬ v < 128 by omega), if_pos h1]
  simp
theorem encF_three {v : Int} (h0 : 2048 ≤ v) (h1 : v < 65536) (h2 : v < 55296 ∨ 57343 < v) : encF v = [224 + v / 4096, 128 + v / 64 % 64, 128 + v % 64] := by
  unfold encF widthF
  rw [Lib.encodeRuneZ_three (by omega), if_neg (show ¬ (v < 0 ∨ 1114111 < v ∨ 55296 ≤ v ∧ v ≤ 57343) by omega), if_neg (show ¬ v < 128 by omega), if_neg (show ¬ v < 2048 by omega), if_pos h1]
  simp
theorem encF_four {v : Int} (h0 : 65536 ≤ v) (h1 : v ≤ 1114111) : encF v = [240 + v / 262144, 128 + v / 4096 % 64, 128 + v / 64 % 64, 128 + v % 64] := by
  unfold encF widthF
  rw [Lib.encodeRuneZ_four h0 h1, if_neg (show ¬ (v < 0 ∨ 1114111 < v ∨ 55296 ≤ v ∧ v ≤ 57343) by omega), if_neg (show ¬ v < 128 by omega), if_neg (show ¬ v < 2048 by omega), if_neg (show ¬ v < 65536 by omega)]
  simp
theorem encF_none {v : Int} (h : 55296 ≤ v ∧ v ≤ 57343) : encF v = [] := by
  unfold encF widthF
  rw [if_pos (show v < 0 ∨ 1114111 < v ∨ 55296 ≤ v ∧ v ≤ 57343 by omega), if_pos rfl]
/-- Are n bytes those of the rune that they tell? -/
def fitsF (n : Nat) (B : List Int) : Bool := decide (0 ≤ numF n (B.getD 0 0) (B.getD 1 0) (B.getD 2 0) (B.getD 3 0)) && decide (numF n (B.getD 0 0) (B.getD 1 0) (B.getD 2 0) (B.getD 3 0) ≤ 1114111) && decide (encF (numF n (B.getD 0 0) (B.getD 1 0) (B.getD 2 0) (B.getD 3 0)) = B.take n)
def firstG (B : List Int) : Nat → Nat → Int × Nat
  | 0, _ => (-1, 1)
  | f + 1, n => if n ≤ 4 ∧ n ≤ B.length then (if fitsF n B then (numF n (B.getD 0 0) (B.getD 1 0) (B.getD 2 0) (B.getD 3 0), n) else firstG B f (n + 1)) else (-1, 1)
/-- The piece at the beginning of bytes. -/
def firstF (B : List Int) : Int × Nat := if B = [] then (0, 0) else firstG B 4 1

theorem fits_len {n : Nat} {B : List Int} {v : Int} (hv : numF n (B.getD 0 0) (B.getD 1 0) (B.getD 2 0) (B.getD 3 0) = v) (hl : (encF v).length ≠ (B.take n).length) : fitsF n B = false := by
  unfold fitsF
  rw [hv]
  have : ¬ encF v = B.take n := fun e => hl (by rw [e])
  simp [this]
/-- Bytes as the decoder has them. -/
def decB (B : List Int) : Nat × Nat := Lib.decodeN B.length (B.getD 0 0).toNat (B.getD 1 0).toNat (B.getD 2 0).toNat (B.getD 3 0).toNat
theorem take_one : ∀ l : List Int, 0 < l.length → l.take 1 = [l.getD 0 0]
  | _ :: _, _ => by simp
theorem take_two : ∀ l : List Int, 1 < l.length → l.take 2 = [l.getD 0 0, l.getD 1 0]
  | [_], h => by simp at h
  | _ :: _ :: _, _ => by simp
theorem take_three : ∀ l : List Int, 2 < l.length → l.take 3 = [l.getD 0 0, l.getD 1 0, l.getD 2 0]
  | [_], h => by simp at h
  | [_, _], h => by simp at h
  | _ :: _ :: _ :: _, _ => by simp
theorem take_four : ∀ l : List Int, 3 < l.length → l.take 4 = [l.getD 0 0, l.getD 1 0, l.getD 2 0, l.getD 3 0]
  | [_], h => by simp at h
  | [_, _], h => by simp at h
  | [_, _, _], h => by simp at h
  | _ :: _ :: _ :: _ :: _, _ => by simp
theorem firstG_yes {B : List Int} {f n : Nat} (h4 : n ≤ 4) (hl : n ≤ B.length) (h : fitsF n B = true) : firstG B (f + 1) n = (numF n (B.getD 0 0) (B.getD 1 0) (B.getD 2 0) (B.getD 3 0), n) := by
  rw [firstG, if_pos ⟨h4, hl⟩, if_pos h]
theorem firstG_no {B : List Int} {f n : Nat} (h4 : n ≤ 4) (hl : n ≤ B.length) (h : fitsF n B = false) : firstG B (f + 1) n = firstG B f (n + 1) := by
  rw [firstG, if_pos ⟨h4, hl⟩, if_neg (by rw [h]; simp)]
theorem firstG_out {B : List Int} {f n : Nat} (h : ¬ (n ≤ 4 ∧ n ≤ B.length)) : firstG B f n = (-1, 1) := by
  cases f with
  | zero => rfl
  | succ f => rw [firstG, if_neg h]
theorem fits_yes {n : Nat} {B : List Int} {v : Int} (hv : numF n (B.getD 0 0) (B.getD 1 0) (B.getD 2 0) (B.getD 3 0) = v) (h0 : 0 ≤ v) (h1 : v ≤ 1114111) (he : encF v = B.take n) : fitsF n B = true := by
  unfold fitsF
  rw [hv]
  simp [h0, h1, he]
theorem encF_len {v : Int} (h0 : 0 ≤ v) (h1 : v ≤ 1114111) : (v < 128 ∧ (encF v).length = 1) ∨ (128 ≤ v ∧ v < 2048 ∧ (encF v).length = 2) ∨ (2048 ≤ v ∧ v < 65536 ∧ (v < 55296 ∨ 57343 < v) ∧ (encF v).length = 3) ∨ (65536 ≤ v ∧ (encF v).length = 4) ∨ (2048 ≤ v ∧ v < 65536 ∧ (encF v).length = 0) := by
  by_cases c1 : v < 128
  · exact .inl ⟨c1, by rw [encF_one h0 c1]; rfl⟩
  by_cases c2 : v < 2048
  · exact .inr (.inl ⟨by omega, c2, by rw [encF_two (by omega) c2]; rfl⟩)
  by_cases c3 : v < 65536
  · by_cases c4 : v < 55296 ∨ 57343 < v
    · exact .inr (.inr (.inl ⟨by omega, c3, c4, by rw [encF_three (by omega) c3 c4]; rfl⟩))
    · exact .inr (.inr (.inr (.inr ⟨by omega, c3, by rw [encF_none (by omega)]; rfl⟩)))
  · exact .inr (.inr (.inr (.inl ⟨by omega, by rw [encF_four (by omega) h1]; rfl⟩)))
theorem fits_split {n : Nat} {B : List Int} {v : Int} (hv : numF n (B.getD 0 0) (B.getD 1 0) (B.getD 2 0) (B.getD 3 0) = v) (h : fitsF n B = true) : 0 ≤ v ∧ v ≤ 1114111 ∧ encF v = B.take n := by
  unfold fitsF at h
  rw [hv] at h
  simp at h
  exact ⟨h.1.1, h.1.2, h.2⟩
theorem decodeN_two {n a b c d : Nat} (h0 : a / 32 = 6) (h1 : 1 < n) (h2 : b / 64 = 2) (h3 : a % 32 * 64 + b % 64 ≥ 128) : Lib.decodeN n a b c d = (a % 32 * 64 + b % 64, 2) := by
  unfold Lib.decodeN
  rw [if_neg (by omega), if_pos ⟨h0, h1, h2⟩, if_pos h3]
theorem decodeN_three {n a b c d : Nat} (h0 : a / 16 = 14) (h1 : 2 < n) (h2 : b / 64 = 2) (h3 : c / 64 = 2) (h4 : a % 16 * 4096 + b % 64 * 64 + c % 64 ≥ 2048) (h5 : a % 16 * 4096 + b % 64 * 64 + c % 64 < 55296 ∨ 57344 ≤ a % 16 * 4096 + b % 64 * 64 + c % 64) : Lib.decodeN n a b c d = (a % 16 * 4096 + b % 64 * 64 + c % 64, 3) := by
  unfold Lib.decodeN
  rw [if_neg (by omega), if_neg (by omega), if_pos ⟨h0, ⟨by omega, h2⟩, h1, h3⟩, if_pos (by omega)]
theorem decodeN_four {n a b c d : Nat} (h0 : a / 8 = 30) (h1 : 3 < n) (h2 : b / 64 = 2) (h3 : c / 64 = 2) (h4 : d / 64 = 2) (h5 : a % 8 * 262144 + b % 64 * 4096 + c % 64 * 64 + d % 64 ≥ 65536) (h6 : a % 8 * 262144 + b % 64 * 4096 + c % 64 * 64 + d % 64 ≤ 1114111) : Lib.decodeN n a b c d = (a % 8 * 262144 + b % 64 * 4096 + c % 64 * 64 + d % 64, 4) := by
  unfold Lib.decodeN
  rw [if_neg (by omega), if_neg (by omega), if_neg (by omega), if_pos ⟨h0, ⟨by omega, h2⟩, ⟨by omega, h3⟩, h1, h4⟩, if_pos (by omega)]
theorem getD_bd {B : List Int} (hb : ∀ x ∈ B, 0 ≤ x ∧ x ≤ 255) (i : Nat) : 0 ≤ B.getD i 0 ∧ B.getD i 0 ≤ 255 := by
  rw [List.getD_eq_getElem?_getD]
  cases h : B[i]? with
  | none => simp
  | some x => exact hb x (List.mem_of_getElem? h)
set_option maxHeartbeats 2000000 in
theorem first_dec (B : List Int) (hne : B ≠ []) (hb : ∀ x ∈ B, 0 ≤ x ∧ x ≤ 255) :
    (decB B ≠ (65533, 1) → firstF B = (((decB B).1 : Int), (decB B).2)) ∧ (decB B = (65533, 1) → firstF B = (-1, 1)) := by
  have hl : 0 < B.length := List.length_pos_iff.2 hne
  have g0 := getD_bd hb 0
  have g1 := getD_bd hb 1
  have g2 := getD_bd hb 2
  have g3 := getD_bd hb 3
  have t1 := take_one B hl
  have t2 := take_two B
  have t3 := take_three B
  have t4 := take_four B
  unfold firstF
  rw [if_neg hne]
  have hsh := Lib.decodeN_shape B.length (B.getD 0 0).toNat (B.getD 1 0).toNat (B.getD 2 0).toNat (B.getD 3 0).toNat
  change _ ∨ _ ∨ _ ∨ _ ∨ decB B = _ at hsh
  have hdef : decB B = Lib.decodeN B.length (B.getD 0 0).toNat (B.getD 1 0).toNat (B.getD 2 0).toNat (B.getD 3 0).toNat := rfl
  rw [← hdef] at hsh
  obtain ⟨x0, e0⟩ : ∃ x, B.getD 0 0 = x := ⟨_, rfl⟩
  obtain ⟨x1, e1⟩ : ∃ x, B.getD 1 0 = x := ⟨_, rfl⟩
  obtain ⟨x2, e2⟩ : ∃ x, B.getD 2 0 = x := ⟨_, rfl⟩
  obtain ⟨x3, e3⟩ : ∃ x, B.getD 3 0 = x := ⟨_, rfl⟩
  rw [e0] at t1 g0
  rw [e0, e1] at t2
  rw [e1] at g1
  rw [e2] at g2
  rw [e3] at g3
  rw [e0, e1, e2] at t3
  rw [e0, e1, e2, e3] at t4 hsh hdef
  -- one byte
  have n1 : numF (1 : Nat) (B.getD 0 0) (B.getD 1 0) (B.getD 2 0) (B.getD 3 0) = x0 := by rw [e0]; rfl
  have n2 : numF (2 : Nat) (B.getD 0 0) (B.getD 1 0) (B.getD 2 0) (B.getD 3 0) = 64 * (x0 - 192) + x1 - 128 := by rw [e0, e1]; rfl
  have n3 : numF (3 : Nat) (B.getD 0 0) (B.getD 1 0) (B.getD 2 0) (B.getD 3 0) = 64 * (64 * (x0 - 224) + x1 - 128) + x2 - 128 := by rw [e0, e1, e2]; rfl
  have n4 : numF (4 : Nat) (B.getD 0 0) (B.getD 1 0) (B.getD 2 0) (B.getD 3 0) = 64 * (64 * (64 * (x0 - 240) + x1 - 128) + x2 - 128) + x3 - 128 := by rw [e0, e1, e2, e3]; rfl
  have no1 : 128 ≤ x0 → fitsF 1 B = false := fun h => fits_len n1 (by rw [encF_two h (by omega), t1]; simp)
  rcases hsh with ⟨c1, c2⟩ | ⟨c1, c2, c3, c4, c5⟩ | ⟨c1, c2, c3, c4, c5, c6, c7⟩ | ⟨c1, c2, c3, c4, c5, c6, c7, c8⟩ | c1
  · rw [c2]
    have hy : fitsF 1 B = true := fits_yes n1 (by omega) (by omega) (by rw [encF_one (by omega) (by omega), t1])
    rw [firstG_yes (by omega) hl hy, n1]
    exact ⟨fun _ => by congr 1; dsimp only; omega, fun h => by injection h with h1 h2; omega⟩
  · rw [c5]
    have hy : fitsF 2 B = true := fits_yes n2 (by omega) (by omega) (by
      rw [encF_two (by omega) (by omega), t2 (by omega)]
      simp only [List.cons.injEq, and_true]
      omega)
    rw [firstG_no (by omega) hl (no1 (by omega)), firstG_yes (by omega) (by omega) hy, n2]
    exact ⟨fun _ => by congr 1; dsimp only; omega, fun h => by injection h with h1 h2; omega⟩
  · rw [c7]
    have no2 : fitsF 2 B = false := fits_len n2 (by
      have := encF_len (v := 64 * (x0 - 192) + x1 - 128) (by omega) (by omega)
      rw [t2 (by omega)]
      simp only [List.length_cons, List.length_nil]
      omega)
    have hy : fitsF 3 B = true := fits_yes n3 (by omega) (by omega) (by
      rw [encF_three (by omega) (by omega) (by omega), t3 (by omega)]
      simp only [List.cons.injEq, and_true]
      omega)
    rw [firstG_no (by omega) hl (no1 (by omega)), firstG_no (by omega) (by omega) no2, firstG_yes (by omega) (by omega) hy, n3]
    exact ⟨fun _ => by congr 1; dsimp only; omega, fun h => by injection h with h1 h2; omega⟩
  · rw [c8]
    have no2 : fitsF 2 B = false := fits_len n2 (by
      have := encF_len (v := 64 * (x0 - 192) + x1 - 128) (by omega) (by omega)
      rw [t2 (by omega)]
      simp only [List.length_cons, List.length_nil]
      omega)
    have no3 : fitsF 3 B = false := fits_len n3 (by
      have := encF_len (v := 64 * (64 * (x0 - 224) + x1 - 128) + x2 - 128) (by omega) (by omega)
      rw [t3 (by omega)]
      simp only [List.length_cons, List.length_nil]
      omega)
    have hy : fitsF 4 B = true := fits_yes n4 (by omega) (by omega) (by
      rw [encF_four (by omega) (by omega), t4 (by omega)]
      simp only [List.cons.injEq, and_true]
      omega)
    rw [firstG_no (by omega) hl (no1 (by omega)), firstG_no (by omega) (by omega) no2, firstG_no (by omega) (by omega) no3, firstG_yes (by omega) (by omega) hy, n4]
    exact ⟨fun _ => by congr 1; dsimp only; omega, fun h => by injection h with h1 h2; omega⟩
  · refine ⟨fun h => absurd c1 h, fun _ => ?_⟩
    have h128 : 128 ≤ x0 := by
      rcases Int.lt_or_le x0 128 with h | h
      · rw [c1] at hdef
        unfold Lib.decodeN at hdef
        rw [if_pos (by omega)] at hdef
        injection hdef with h1 h2
        omega
      · exact h
    rw [firstG_no (by omega) hl (no1 h128)]
    by_cases l2 : 1 < B.length
    rotate_left
    · exact firstG_out (by omega)
    have no2 : fitsF 2 B = false := by
      cases hf : fitsF 2 B
      · rfl
      · exfalso
        obtain ⟨v0, v1, ve⟩ := fits_split n2 hf
        have hle := encF_len v0 v1
        rw [ve, t2 l2] at hle
        simp only [List.length_cons, List.length_nil] at hle
        rw [encF_two (by omega) (by omega), t2 l2] at ve
        simp only [List.cons.injEq, and_true] at ve
        rw [c1, decodeN_two (by omega) l2 (by omega) (by omega)] at hdef
        injection hdef with h1 h2
        omega
    rw [firstG_no (by omega) (by omega) no2]
    by_cases l3 : 2 < B.length
    rotate_left
    · exact firstG_out (by omega)
    have no3 : fitsF 3 B = false := by
      cases hf : fitsF 3 B
      · rfl
      · exfalso
        obtain ⟨v0, v1, ve⟩ := fits_split n3 hf
        have hle := encF_len v0 v1
        rw [ve, t3 l3] at hle
        simp only [List.length_cons, List.length_nil] at hle
        rw [encF_three (by omega) (by omega) (by omega), t3 l3] at ve
        simp only [List.cons.injEq, and_true] at ve
        rw [c1, decodeN_three (by omega) l3 (by omega) (by omega) (by omega) (by omega)] at hdef
        injection hdef with h1 h2
        omega
    rw [firstG_no (by omega) (by omega) no3]
    by_cases l4 : 3 < B.length
    rotate_left
    · exact firstG_out (by omega)
    have no4 : fitsF 4 B = false := by
      cases hf : fitsF 4 B
      · rfl
      · exfalso
        obtain ⟨v0, v1, ve⟩ := fits_split n4 hf
        have hle := encF_len v0 v1
        rw [ve, t4 l4] at hle
        simp only [List.length_cons, List.length_nil] at hle
        rw [encF_four (by omega) (by omega), t4 l4] at ve
        simp only [List.cons.injEq, and_true] at ve
        rw [c1, decodeN_four (by omega) l4 (by omega) (by omega) (by omega) (by omega) (by omega)] at hdef
        injection hdef with h1 h2
        omega
    rw [firstG_no (by omega) (by omega) no4]
    rfl
end Go.Proofs.Ytmicmmbdkmmnoaa
