/- Names' texts (layer 5): strings.Contains and Cut at a colon, runes, Name, Plain, Split: walked. -/
import Derived.Test.YtmicmmbdkmmnoaaScanW
import Derived.Test.YtmicmmbdkmmnoaaLeadR
import Derived.Lib.Bytealg
namespace Go.Proofs.Ytmicmmbdkmmnoaa
open Go.RowKit
attribute [local go_sem ↓] Go.wp_at_zero Go.wp_at_succ

/-- The place of the first colon; -1: none. -/
def colF (s : ByteArray) : Int := Lib.indexByte s.data.toList 58
theorem idx_lt (c : UInt8) : ∀ l : List UInt8, Lib.indexByte l c < l.length
  | [] => by simp [Lib.indexByte]
  | b :: l => by
    have := idx_lt c l
    rw [Lib.indexByte, List.length_cons]
    (repeat' split) <;> omega
theorem colF_lt (s : ByteArray) : colF s < s.size := idx_lt 58 s.data.toList
/-- What Cut at a colon gives. -/
def cutF (s : ByteArray) : ByteArray × ByteArray × Bool := if 0 ≤ colF s then (s.extract 0 (colF s).toNat, s.extract ((colF s).toNat + 1) s.size, true) else (s, ⟨#[]⟩, false)
/-- The runes of a text. -/
def runesX (s : ByteArray) : List Int := (itemsX s 0).map It.r
theorem itemsG_len (s : ByteArray) : ∀ (f pos : Nat), (itemsG s f pos).length ≤ f
  | 0, _ => Nat.le_refl _
  | f + 1, pos => by
    rw [itemsG]
    split
    · simpa using itemsG_len s f _
    · exact Nat.zero_le _
theorem runesX_len (s : ByteArray) : (runesX s).length ≤ s.size := by
  unfold runesX itemsX
  rw [List.length_map]
  exact itemsG_len s _ _
theorem bytes_sl (w : World) (e : TypeId) (s : ByteArray) (hs : s.size ≤ 1000000) : Sl (Lib.bytesWorld w e s) 1 (some ⟨w.heap.size, 0, none⟩) s.size (grownCap w s.size 0 e) ((s.data.toList.map (fun (b : UInt8) => (b.toNat : Int))).map (Value.int .u8)) := by
  have hl : s.data.toList.length = s.size := rfl
  refine ⟨by simp [hl], grownCap_ge w _ _ e, grownCap_le_maxLen w _ _ e (by unfold maxLen; omega), fun _ => ⟨w.heap.size, 0, rfl, fun j u hu => ?_⟩⟩
  have hj : j < s.size := by
    have := (List.getElem?_eq_some_iff.1 hu).1
    simpa [hl] using this
  rw [Nat.zero_add, Lib.bytesWorld_cell w e s j hj, ← hu]
  simp [List.getD, List.getElem?_eq_getElem (show j < s.data.toList.length from hj)]
theorem bytes_num (s : ByteArray) : strOfNums (s.data.toList.map (fun (b : UInt8) => (b.toNat : Int))) = s := by
  have : (s.data.toList.map (fun (b : UInt8) => (b.toNat : Int))).map (fun n => UInt8.ofNat n.toNat) = s.data.toList := by
    rw [List.map_map]
    conv => rhs; rw [← List.map_id s.data.toList]
    apply List.map_congr_left
    intro b _
    simp
  unfold strOfNums
  rw [this]
theorem bytes_kept (w : World) (e : TypeId) (s : ByteArray) : Kept w (Lib.bytesWorld w e s) :=
  ⟨rfl, rfl, rfl, by rw [Lib.bytesWorld_size]; omega, fun k hk => Lib.bytesWorld_at_old w e s k hk⟩
theorem elem_it {w : World} {n c k : Nat} {A : Option Addr} {P : List It} (h : Sl w 3 A n c (P.flatMap itC)) (hk : k < n) :
    ∃ b o p, A = some ⟨b, o, none⟩ ∧ P[k]? = some p ∧ w.cell? ⟨b, o + k * 3, none⟩ = some (.int .i32 p.r) ∧ w.cell? ⟨b, o + k * 3 + 1, none⟩ = some (.int .i64 p.off) ∧ w.cell? ⟨b, o + k * 3 + 2, none⟩ = some (.int .i64 p.n) ∧ b < w.heap.size := by
  obtain ⟨b, o, p, hA, hp, hc, hb⟩ := h.elemb (s := 3) (k := k) (fun _ => rfl) (by omega) hk
  exact ⟨b, o, p, hA, hp, hc 0 _ rfl, hc 1 _ rfl, hc 2 _ rfl, hb⟩
/-- Is a text a name? -/
def nameF (s : ByteArray) : Bool := decide (0 < (runesX s).length) && (leadF (runesX s) == (runesX s).length)
/-- Is it one without a colon? -/
def plainF (s : ByteArray) : Bool := nameF s && !decide (0 ≤ colF s)
theorem extract_size (s : ByteArray) (a b : Nat) : (s.extract a b).size ≤ s.size := by
  simp [ByteArray.size_extract]
  omega
/-- Prefix, local name. -/
def splitF (s : ByteArray) : ByteArray × ByteArray × Bool :=
  if (cutF s).2.2 then (if plainF (cutF s).1 && plainF (cutF s).2.1 then ((cutF s).1, (cutF s).2.1, true) else (⟨#[]⟩, ⟨#[]⟩, false))
  else (if plainF s then (⟨#[]⟩, s, true) else (⟨#[]⟩, ⟨#[]⟩, false))
theorem cut_size (s : ByteArray) : (cutF s).1.size ≤ s.size ∧ (cutF s).2.1.size ≤ s.size := by
  unfold cutF
  split
  · exact ⟨extract_size _ _ _, extract_size _ _ _⟩
  · exact ⟨Nat.le_refl _, Nat.zero_le _⟩
end Go.Proofs.Ytmicmmbdkmmnoaa
