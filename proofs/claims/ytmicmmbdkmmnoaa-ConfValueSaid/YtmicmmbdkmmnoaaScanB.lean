/- Bytes as runes (layer 1), plain: the reference's First at a place is the model's decode. -/
import Derived.Test.YtmicmmbdkmmnoaaScanR
import Derived.Test.YtmicmmbdkmmnoaaNameV
namespace Go.Proofs.Ytmicmmbdkmmnoaa
open Go.RowKit

theorem getb_at {s : ByteArray} {i : Nat} (h : i < s.size) : s.get! i = s[i] := by
  simp [ByteArray.get!, getElem!_pos, h]
  rfl
/-- A text's bytes as numbers. -/
def bl (s : ByteArray) : List Int := s.data.toList.map (fun (b : UInt8) => (b.toNat : Int))
theorem bl_len (s : ByteArray) : (bl s).length = s.size := by
  unfold bl
  rw [List.length_map]
  rfl
theorem bl_bd (s : ByteArray) : ∀ x ∈ bl s, 0 ≤ x ∧ x ≤ 255 := by
  intro x hx
  obtain ⟨b, _, rfl⟩ := List.mem_map.1 hx
  have := b.toNat_lt
  omega
theorem bl_get {s : ByteArray} {i : Nat} (h : i < s.size) : (bl s)[i]? = some (s[i].toNat : Int) := by
  unfold bl
  rw [List.getElem?_map, List.getElem?_eq_getElem (show i < s.data.toList.length from h)]
  rfl
theorem get_out {s : ByteArray} {i : Nat} (h : ¬ i < s.size) : s.get! i = 0 := by
  have h2 : s.data[i]? = none := Array.getElem?_eq_none (by have : s.data.size = s.size := rfl; omega)
  show s.data[i]! = 0
  rw [Array.getElem!_eq_getD, Array.getD_eq_getD_getElem?, h2]
  rfl
theorem bl_drop (s : ByteArray) (pos i : Nat) : ((bl s).drop pos).getD i 0 = ((s.get! (pos + i)).toNat : Int) := by
  rw [List.getD_eq_getElem?_getD, List.getElem?_drop]
  by_cases h : pos + i < s.size
  · rw [bl_get h, getb_at h]
    rfl
  · rw [List.getElem?_eq_none (by rw [bl_len]; omega), get_out h]
    rfl
theorem decB_at (s : ByteArray) (pos : Nat) : decB ((bl s).drop pos) = Utf8.decode s pos := by
  unfold decB
  rw [Lib.decode_at, bl_drop, bl_drop, bl_drop, bl_drop, List.length_drop, bl_len]
  simp
theorem bytes3 {s : ByteArray} {pos : Nat} (h : pos + 2 < s.size) : (s.extract pos (pos + 3)).toList = [s.get! pos, s.get! (pos + 1), s.get! (pos + 2)] := by
  have g0 := getb_at (s := s) (i := pos) (by omega)
  have g1 := getb_at (s := s) (i := pos + 1) (by omega)
  have g2 := getb_at (s := s) (i := pos + 2) (by omega)
  rw [g0, g1, g2, ByteArray.toList_eq]
  have hs : s.data.size = s.size := rfl
  apply List.ext_getElem
  · simp
    omega
  · intro i h1 h2
    simp at h2
    rcases (show i = 0 ∨ i = 1 ∨ i = 2 by omega) with rfl | rfl | rfl <;> simp [ByteArray.data_extract] <;> rfl
theorem first_at (s : ByteArray) (pos : Nat) (h : pos < s.size) : firstF ((bl s).drop pos) = ((itemAt s pos).r, (Utf8.decode s pos).2) := by
  have hne : (bl s).drop pos ≠ [] := by
    intro e
    have := congrArg List.length e
    rw [List.length_drop, bl_len] at this
    simp at this
    omega
  obtain ⟨hy, hn⟩ := first_dec ((bl s).drop pos) hne (fun x hx => bl_bd s x (List.mem_of_mem_drop hx))
  rw [decB_at] at hy hn
  have hd := Lib.decode_at s pos
  have hsh := Lib.decodeN_shape (s.size - pos) (s.get! pos).toNat (s.get! (pos + 1)).toNat (s.get! (pos + 2)).toNat (s.get! (pos + 3)).toNat
  rw [← hd] at hsh
  by_cases hb : Utf8.decode s pos = (65533, 1)
  · rw [hn hb]
    have hbad : badS s pos = true := by
      unfold badS
      by_cases h3 : s.size - pos < 3
      · simp [h3]
      · rw [bytes3 (by omega)]
        simp only [Bool.or_eq_true, Bool.not_eq_true']
        right
        apply Bool.eq_false_iff.2
        intro e
        have e2 := eq_of_beq e
        injection e2 with a1 e2
        injection e2 with a2 e2
        injection e2 with a3 e2
        rw [a1, a2, a3] at hd
        have : Utf8.decode s pos = (65533, 3) := by
          rw [hd]
          exact decodeN_three (by decide) (by omega) (by decide) (by decide) (by decide) (by decide)
        rw [hb] at this
        cases this
    unfold itemAt
    rw [hb, if_pos ⟨rfl, hbad⟩]
  · rw [hy hb]
    have hgood : ¬ ((Utf8.decode s pos).1 = 65533 ∧ badS s pos = true) := by
      rintro ⟨h1, h2⟩
      rcases hsh with ⟨k0, k⟩ | ⟨k0, k1, k2, k3, k⟩ | ⟨k0, k1, k2, k3, k4, k5, k⟩ | ⟨k0, k1, k2, k3, k4, k5, k6, k⟩ | k
      · rw [k] at h1
        dsimp only at h1
        omega
      · rw [k] at h1
        dsimp only at h1
        omega
      · rw [k] at h1
        dsimp only at h1
        have e0 : s.get! pos = 239 := UInt8.toNat_inj.1 (show (s.get! pos).toNat = 239 by omega)
        have e1 : s.get! (pos + 1) = 191 := UInt8.toNat_inj.1 (show (s.get! (pos + 1)).toNat = 191 by omega)
        have e2 : s.get! (pos + 2) = 189 := UInt8.toNat_inj.1 (show (s.get! (pos + 2)).toNat = 189 by omega)
        unfold badS at h2
        rw [bytes3 (by omega), e0, e1, e2] at h2
        simp at h2
        omega
      · rw [k] at h1
        dsimp only at h1
        omega
      · exact hb k
    unfold itemAt
    rw [if_neg hgood]
end Go.Proofs.Ytmicmmbdkmmnoaa
