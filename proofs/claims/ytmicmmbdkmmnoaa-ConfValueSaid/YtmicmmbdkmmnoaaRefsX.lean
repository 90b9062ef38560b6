/- Runes as bytes (layer 1): scan.Bytes, rubricref01.Bytes: walked. -/
import Derived.Test.YtmicmmbdkmmnoaaScanV
import Derived.Test.YtmicmmbdkmmnoaaRefsP
import Derived.Lib.AppendStr
import Derived.Laws.Runes
namespace Go.Proofs.Ytmicmmbdkmmnoaa
open Go.RowKit
attribute [local go_sem ↓] Go.wp_at_zero Go.wp_at_succ

/-- A rune that is one. -/
def Vr (r : Int) : Prop := (0 ≤ r ∧ r < 55296) ∨ (57343 < r ∧ r ≤ 1114111)
theorem ofNat_cell {n : Nat} (h : n < 256) : Value.int .u8 ((UInt8.ofNat n).toNat : Int) = Value.int .u8 n := by
  congr 1
  simp
  omega
theorem enc_cells {r : Int} (hv : Vr r) : Lib.strCells (Utf8.encode r) = (encF r).map (Value.int .u8) := by
  have h0 : 0 ≤ r := by rcases hv with h | h <;> omega
  obtain ⟨k, rfl⟩ := Int.eq_ofNat_of_zero_le h0
  have hval : Utf8.valid (k : Int) = true := by
    rw [validRune_eq]
    simpa [validRune, Vr] using hv
  have hv2 : k < 55296 ∨ (57343 < k ∧ k ≤ 1114111) := by rcases hv with h | h <;> omega
  unfold Utf8.encode
  rw [if_pos hval]
  dsimp only
  rw [Int.toNat_natCast]
  by_cases c1 : k < 128
  · rw [if_pos c1, encF_one (by omega) (by omega)]
    simp only [Lib.strCells, List.map_cons, List.map_nil]
    rw [ofNat_cell (by omega)]
  rw [if_neg c1]
  by_cases c2 : k < 2048
  · rw [if_pos c2, encF_two (by omega) (by omega)]
    simp only [Lib.strCells, List.map_cons, List.map_nil]
    rw [ofNat_cell (by omega), ofNat_cell (by omega)]
    simp
  rw [if_neg c2]
  by_cases c3 : k < 65536
  · rw [if_pos c3, encF_three (by omega) (by omega) (by omega)]
    simp only [Lib.strCells, List.map_cons, List.map_nil]
    rw [ofNat_cell (by omega), ofNat_cell (by omega), ofNat_cell (by omega)]
    simp
  rw [if_neg c3, encF_four (by omega) (by omega)]
  simp only [Lib.strCells, List.map_cons, List.map_nil]
  rw [ofNat_cell (by omega), ofNat_cell (by omega), ofNat_cell (by omega), ofNat_cell (by omega)]
  simp
theorem enc_size {r : Int} (hv : Vr r) : (Utf8.encode r).size = (encF r).length := by
  have := congrArg List.length (enc_cells hv)
  rw [Lib.strCells_length, List.length_map] at this
  exact this
theorem width_pos {r : Int} (hv : Vr r) : 0 < widthF r := by
  unfold widthF
  rcases hv with h | h <;> (repeat' split) <;> omega
theorem encF_len4 (r : Int) : (encF r).length ≤ 4 := by
  unfold encF
  split
  · simp
  · exact (Lib.encodeRuneZ_length r).2
theorem encs_len (l : List Int) : (l.flatMap encF).length ≤ 4 * l.length := by
  induction l with
  | nil => simp
  | cons x l ih =>
    have := encF_len4 x
    rw [List.flatMap_cons, List.length_append, List.length_cons]
    omega
theorem encs_snoc {l : List Int} {k : Nat} {x : Int} (h : l[k]? = some x) : (l.take (k + 1)).flatMap encF = (l.take k).flatMap encF ++ encF x := by
  rw [List.take_add_one, h]
  simp
theorem appT_by : AppT Try.prog 89 5 1 := appT_mk (z := .int .u8 0) (bytes := 1) Try.underlying89 (by kernel_rfl) rfl (by omega) (by omega)

set_option maxHeartbeats 2000000 in
theorem sbytes_any (A : Option Addr) (n c : Nat) (l : List Int) (w : World) (h : Sl w 1 A n c (l.map (Value.int .i32))) (hn : n ≤ 1000000) (hv : ∀ x ∈ l, Vr x) :
    Calls Try.prog 65 #[.slice A n c] w fun e w' => ∃ VA VC, e = .returned (.slice VA (l.flatMap encF).length VC) ∧ Sl w' 1 VA (l.flatMap encF).length VC ((l.flatMap encF).map (Value.int .u8)) ∧ Kept w w' := by
  have hcap := h.cap
  have hmax := h.max
  have HL := Lib.hid h.llen1
  have HV := Lib.hid hv
  clear hv
  have hinf : (Try.prog.info? 5).map (fun i => (i.zero, i.size, i.bytes)) = some (some (Value.int .u8 0), 1, 1) := by kernel_rfl
  obtain ⟨ti, hti, hte⟩ := Option.map_eq_some_iff.1 hinf
  injection hte with htz hte
  injection hte with hts htb
  clear hinf
  go_enter Try.func65, Try.ntmps65
  go_wp2_with fail
  go_loopw [3, 8] (fun v u wr => ∃ k : Nat, k ≤ n ∧ u = .int .i64 k ∧ wr.ownsRow w.heap.size 5 1 v ((l.take k).flatMap encF).length (((l.take k).flatMap encF).map (Value.int .u8)) ∧ Kept w wr) (fun _ u _ => n - (intOf u).toNat)
  case atStart => exact ⟨0, Nat.zero_le _, rfl, World.ownsRow_nil _ _ _ _, Kept.refl _⟩
  case round =>
    obtain ⟨k, hkn, rfl, hown, hk⟩ := hrel
    by_cases hlt : k < n
    · obtain ⟨b, o, x, rfl, hx, hc, hb⟩ := (h.kept hk).oneb (k := k) hlt
      have hvx := HV.out x (List.mem_of_getElem? hx)
      have hsn := encs_snoc hx
      have hlen := encs_len (l.take k)
      rw [List.length_take] at hlen
      have hwp := width_pos hvx
      have hec := enc_cells hvx
      have hes := enc_size hvx
      have hel := encF_len4 x
      obtain ⟨S, hS⟩ : ∃ S, Utf8.encode x = S := ⟨_, rfl⟩
      rw [hS] at hec hes
      obtain ⟨W, hW⟩ : ∃ z, widthF x = z := ⟨_, rfl⟩
      rw [hW] at hwp
      have dW : decide (0 < W) = true := by simpa using hwp
      obtain ⟨X, hX⟩ : ∃ X, (l.take k).flatMap encF = X := ⟨_, rfl⟩
      rw [hX] at hown hsn hlen
      have HSN := Lib.hid hsn
      have HEC := Lib.hid hec
      clear hx hsn hec hX
      go_wp2_with fail
      refine (width_any x _).mono ?_
      rintro e w1 ⟨rfl, rfl⟩
      rw [hW]
      clear hW
      go_wp2_with (at_builtin; refine Lib.wpList_append_own_string _ (by rfl) _ _ 89 9 (by rfl) w.heap.size 5 ti Try.underlying89 Try.underlying9 hti htz hts htb _ _ _ (by rfl) hown S (by rfl) (by simp only [maxLen]; omega) (by omega) hk.size ?_; (intro v' w' hown' hgr hob))
      rw [HEC.out, ← List.map_append, hes, ← List.length_append, ← HSN.out] at hown'
      have hk3 : Kept w w' := hk.grown hgr (fun k e => by have := hown.lt k e; omega)
      clear hown hgr hob
      go_roundw
      case rel => exact ⟨k + 1, hlt, by simp, hown', hk3⟩
      case measure =>
        simp [intOf]
        omega
    · have hkk : k = n := by omega
      rw [hkk, List.take_of_length_le (by have := HL.out; omega)] at hown
      obtain ⟨VA, VC, rfl, hVs⟩ := own_sl hown
      go_wp2_with fail
      go_ret
      exact ⟨VA, VC, rfl, hVs, hk⟩
end Go.Proofs.Ytmicmmbdkmmnoaa
