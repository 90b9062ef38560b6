/- A text's words: the reference's walked; that both ways give the same words. -/
import Derived.Test.YtmicmmbdkmmnoaaNameT
import Derived.Lib.FieldsP
namespace Go.Proofs.Ytmicmmbdkmmnoaa
open Go.RowKit
attribute [local go_sem ↓] Go.wp_at_zero Go.wp_at_succ

/-- The words from a byte on: the one that is open, and those behind. -/
def wordsG (s : ByteArray) : Nat → Nat → Nat → List ByteArray
  | 0, a, pos => if a < pos then [s.extract a pos] else []
  | f + 1, a, pos => if h : pos < s.size then
      (if s[pos] = 32 then (if a < pos then s.extract a pos :: wordsG s f (pos + 1) (pos + 1) else wordsG s f (pos + 1) (pos + 1))
       else wordsG s f a (pos + 1))
    else (if a < pos then [s.extract a pos] else [])
/-- The words of a text. -/
def wordsF (s : ByteArray) : List ByteArray := wordsG s s.size 0 0
theorem wordsG_sp {s : ByteArray} {f a pos : Nat} (h : pos < s.size) (hb : s[pos] = 32) : wordsG s (f + 1) a pos = if a < pos then s.extract a pos :: wordsG s f (pos + 1) (pos + 1) else wordsG s f (pos + 1) (pos + 1) := by
  rw [wordsG, dif_pos h, if_pos hb]
theorem wordsG_in {s : ByteArray} {f a pos : Nat} (h : pos < s.size) (hb : s[pos] ≠ 32) : wordsG s (f + 1) a pos = wordsG s f a (pos + 1) := by
  rw [wordsG, dif_pos h, if_neg hb]
theorem wordsG_end {s : ByteArray} {f a pos : Nat} (h : ¬ pos < s.size) : wordsG s f a pos = if a < pos then [s.extract a pos] else [] := by
  cases f with
  | zero => rfl
  | succ f => rw [wordsG, dif_neg h]
theorem appT_str : AppT Try.prog 51 9 1 := appT_mk (z := .string ⟨#[]⟩) (bytes := 16) Try.underlying51 (by kernel_rfl) rfl (by omega) (by omega)
theorem extract_snoc (s : ByteArray) (a pos : Nat) (h : a ≤ pos) : s.extract a pos ++ s.extract pos (pos + 1) = s.extract a (pos + 1) := by
  rw [ByteArray.extract_append_extract]
  congr 1 <;> omega

theorem extract_nil (s : ByteArray) (a : Nat) : s.extract a a = ⟨#[]⟩ := by
  apply ByteArray.ext
  simp
theorem extract_empty (s : ByteArray) (a pos : Nat) (hp : pos ≤ s.size) : ((s.extract a pos).toList == []) = !decide (a < pos) := by
  rw [ByteArray.toList_eq]
  have h2 : (s.extract a pos).data.toList.length = pos - a := by
    have : (s.extract a pos).data.toList.length = (s.extract a pos).size := rfl
    rw [this, ByteArray.size_extract]
    omega
  cases hd : (s.extract a pos).data.toList with
  | nil =>
    rw [hd] at h2
    simp at h2
    simp
    omega
  | cons x t =>
    rw [hd] at h2
    simp at h2
    simp
    omega
set_option maxHeartbeats 4000000 in
theorem rwords_any (s : ByteArray) (w : World) (hs : s.size ≤ 1000000) :
    Calls Try.prog 27 #[.string s] w fun e w' => ∃ VA VC, e = .returned (.slice VA (wordsF s).length VC) ∧ Sl w' 1 VA (wordsF s).length VC ((wordsF s).map Value.string) ∧ Kept w w' := by
  go_enter Try.func27, Try.ntmps27
  go_wp2_with fail
  go_loopw [3, 4, 5] (fun s3 s4 s5 wr => ∃ (pos a : Nat) (D : List ByteArray) (VA : Option Addr) (VC : Nat), a ≤ pos ∧ pos ≤ s.size ∧ s5 = .int .i64 pos ∧ s4 = .string (s.extract a pos) ∧ s3 = .slice VA D.length VC ∧ D.length ≤ pos ∧
    wr.ownsRow w.heap.size 9 1 (.slice VA D.length VC) D.length (D.map Value.string) ∧ Kept w wr ∧ Hid (wordsF s = D ++ wordsG s (s.size - pos) a pos)) (fun _ _ v _ => s.size - (intOf v).toNat)
  case atStart =>
    exact ⟨0, 0, [], none, 0, Nat.le_refl _, Nat.zero_le _, rfl, congrArg Value.string (by rw [extract_nil]), rfl, Nat.le_refl _, World.ownsRow_nil _ _ _ _, Kept.refl _, rfl⟩
  case round =>
    obtain ⟨pos, a, D, VA, VC, hap, hps, rfl, rfl, rfl, hD, hown, hk, hinv⟩ := hrel
    by_cases hp : pos < s.size
    · have w1 : IntKind.i64.wrap ((pos : Int) + 1) = (pos : Int) + 1 := IntWalk.i64_in _ (by omega)
      have l1 : (0 : Int) ≤ pos := by omega
      have l2 : (pos : Int) < s.size := by omega
      have l3 : (pos : Int) + 1 ≤ s.size := by omega
      have l4 : ((pos : Int) + 1).toNat = pos + 1 := by omega
      have l5 : (pos : Int) ≤ (pos : Int) + 1 := by omega
      obtain ⟨f, hf⟩ : ∃ f, s.size - pos = f + 1 := ⟨s.size - pos - 1, by omega⟩
      have hf2 : s.size - (pos + 1) = f := by omega
      by_cases hb : s[pos] = 32
      · have HW := Lib.hid (wordsG_sp (f := f) (a := a) hp hb)
        have hx : ((s[pos].toNat : Int) != 32) = false := by rw [hb]; rfl
        have he := extract_empty s a pos (by omega)
        clear hb
        by_cases hlt : a < pos
        · have he2 : ((s.extract a pos).toList == []) = false := by rw [he]; simp [hlt]
          clear he
          go_wp2_with (at_builtin; refine wpList_app (by rfl) _ _ (by rfl) appT_str (by rfl) (hown.alloc _) (by rfl) (Sl.litg (by rfl) ?_ (by omega)) ?_ ?_ ?_ ?_; (exact rfl); (exact rfl); (omega); (have := hk.size; simp; omega); (intro v' w' hown' hgr hob; obtain ⟨VA', VC', rfl, hVs⟩ := own_sl hown'))
          have hk3 : Kept w w' := (hk.alloc _).grown hgr (fun k e => by have := hown.lt k e; omega)
          clear hgr hob hVs he2
          go_roundw
          case rel =>
            have hl1 : (D ++ [s.extract a pos]).length = D.length + 1 := by simp
            refine ⟨pos + 1, pos + 1, D ++ [s.extract a pos], VA', VC', Nat.le_refl _, hp, by simp, congrArg Value.string (by rw [extract_nil]), by rw [hl1], by rw [hl1]; omega, ?_, hk3, ?_⟩
            · rw [hl1, List.map_append]
              exact hown'
            · unfold Hid
              rw [hinv.out, hf, HW.out, if_pos hlt, hf2, List.append_assoc]
              rfl
          case measure =>
            simp [intOf]
            omega
        · have he2 : ((s.extract a pos).toList == []) = true := by rw [he]; simp; omega
          clear he
          go_wp2_with fail
          go_roundw
          case rel =>
            refine ⟨pos + 1, pos + 1, D, VA, VC, Nat.le_refl _, hp, by simp, congrArg Value.string (by rw [extract_nil]), rfl, by omega, hown, hk, ?_⟩
            unfold Hid
            rw [hinv.out, hf, HW.out, if_neg hlt, hf2]
          case measure =>
            simp [intOf]
            omega
      · have HW := Lib.hid (wordsG_in (f := f) (a := a) hp hb)
        have hx : ((s[pos].toNat : Int) != 32) = true := by
          simp
          intro e
          apply hb
          apply UInt8.toNat_inj.1
          show s[pos].toNat = 32
          omega
        have hsn := extract_snoc s a pos hap
        clear hb
        go_wp2_with fail
        go_roundw
        case rel =>
          refine ⟨pos + 1, a, D, VA, VC, by omega, hp, by simp, congrArg Value.string (by first | exact hsn | rfl | (rw [← hsn])), rfl, by omega, hown, hk, ?_⟩
          unfold Hid
          rw [hinv.out, hf, HW.out, hf2]
        case measure =>
          simp [intOf]
          omega
    · have HW := Lib.hid (wordsG_end (f := s.size - pos) (a := a) hp)
      have he := extract_empty s a pos hps
      by_cases hlt : a < pos
      · have he2 : ((s.extract a pos).toList == []) = false := by rw [he]; simp [hlt]
        clear he
        go_wp2_with (at_builtin; refine wpList_app (by rfl) _ _ (by rfl) appT_str (by rfl) (hown.alloc _) (by rfl) (Sl.litg (by rfl) ?_ (by omega)) ?_ ?_ ?_ ?_; (exact rfl); (exact rfl); (omega); (have := hk.size; simp; omega); (intro v' w' hown' hgr hob; obtain ⟨VA', VC', rfl, hVs⟩ := own_sl hown'))
        have hk3 : Kept w w' := (hk.alloc _).grown hgr (fun k e => by have := hown.lt k e; omega)
        have hW2 : wordsF s = D ++ [s.extract a pos] := by rw [hinv.out, HW.out, if_pos hlt]
        have HW2 := Lib.hid hW2
        clear hW2 hgr hob
        go_ret
        refine ⟨VA', VC', by rw [HW2.out, List.length_append]; rfl, by rw [HW2.out, List.length_append, List.map_append]; exact hVs, hk3⟩
      · have he2 : ((s.extract a pos).toList == []) = true := by rw [he]; simp; omega
        clear he
        have hW2 : wordsF s = D := by rw [hinv.out, HW.out, if_neg hlt, List.append_nil]
        have HW2 := Lib.hid hW2
        clear hW2
        obtain ⟨A2, c2, hVe, hV⟩ := own_sl hown
        injection hVe with e1 e2 e3
        subst e1 e3
        go_wp2_with fail
        go_ret
        exact ⟨VA, VC, by rw [HW2.out]; rfl, by rw [HW2.out]; exact hV, hk⟩
end Go.Proofs.Ytmicmmbdkmmnoaa
