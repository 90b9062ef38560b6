/- The reader of a line: its parts, walked. -/
import Derived.Test.YtmcmicgdkdbgjaaDoorScrB
import Derived.Test.YtmcmicgdkdbgjaaDoorBlk
namespace Go.Proofs.YtmcmicgdkdbgjaaDoor
open Go.RowKit
attribute [local go_sem ↓] Go.wp_at_zero Go.wp_at_succ

/-- Does a text begin with another one? -/
def preB (p s : ByteArray) : Bool := decide (p.size ≤ s.size) && ((s.extract 0 p.size).toList == p.toList)
set_option maxHeartbeats 2000000 in
theorem hasPre_any (s p : ByteArray) (w : World) : Calls Tryd.prog 81 #[.string s, .string p] w fun e w' => e = .returned (.bool (preB p s)) ∧ w = w' := by
  have HP : Hid (preB p s = (decide (p.size ≤ s.size) && ((s.extract 0 p.size).toList == p.toList))) := rfl
  obtain ⟨z, hz⟩ : ∃ z, preB p s = z := ⟨_, rfl⟩
  rw [hz] at HP ⊢
  clear hz
  by_cases h : p.size ≤ s.size
  · have l1 : (p.size : Int) ≤ s.size := by omega
    have l2 : (0 : Int) ≤ p.size := by omega
    have l3 : (p.size : Int).toNat = p.size := by omega
    obtain ⟨t, ht⟩ : ∃ t, ((s.extract 0 p.size).toList == p.toList) = t := ⟨_, rfl⟩
    have HZ : Hid (z = t) := by
      have := HP.out
      rw [ht, decide_eq_true h] at this
      exact this
    clear HP
    go_enter Tryd.func81, Tryd.ntmps81
    go_wp2_with fail
    go_ret
    exact ⟨ret_bool HZ.out.symm, rfl⟩
  · have l1 : ¬ (p.size : Int) ≤ s.size := by omega
    have HZ : Hid (z = false) := by
      have := HP.out
      rw [decide_eq_false h] at this
      exact this
    clear HP
    go_enter Tryd.func81, Tryd.ntmps81
    go_wp2_with fail
    go_ret
    exact ⟨ret_bool HZ.out.symm, rfl⟩
theorem cutPre_any (s p : ByteArray) (w : World) : Calls Tryd.prog 70 #[.string s, .string p] w fun e w' => e = .returned (.tuple #[.string (if preB p s then s.extract p.size s.size else s), .bool (preB p s)]) ∧ w = w' := by
  have hc : Calls Tryd.prog 77 #[.string s, .string p] w fun e w' => e = .returned (.tuple #[.string (if preB p s then s.extract p.size s.size else s), .bool (preB p s)]) ∧ w = w' := by
    have hH := hasPre_any s p w
    have hle : preB p s = true → p.size ≤ s.size := by
      unfold preB
      simp
      intro h _
      exact h
    obtain ⟨z, hz⟩ : ∃ z, preB p s = z := ⟨_, rfl⟩
    rw [hz] at hH hle ⊢
    have HH := Lib.hid hH
    clear hH hz
    cases z
    · go_enter Tryd.func77, Tryd.ntmps77
      go_wp2_with fail
      refine HH.out.mono ?_
      rintro e w' ⟨rfl, rfl⟩
      go_wp2_with fail
      go_ret2
      exact ⟨rfl, rfl⟩
    · have h := hle rfl
      have l1 : (p.size : Int) ≤ s.size := by omega
      have l2 : (0 : Int) ≤ p.size := by omega
      have l3 : (p.size : Int).toNat = p.size := by omega
      clear hle
      go_enter Tryd.func77, Tryd.ntmps77
      go_wp2_with fail
      refine HH.out.mono ?_
      rintro e w' ⟨rfl, rfl⟩
      go_wp2_with fail
      go_ret2
      exact ⟨rfl, rfl⟩
  have HC := Lib.hid hc
  clear hc
  obtain ⟨x, hx⟩ : ∃ x, (if preB p s then s.extract p.size s.size else s) = x := ⟨_, rfl⟩
  rw [hx] at HC ⊢
  clear hx
  go_enter Tryd.func70, Tryd.ntmps70
  go_wp2_with fail
  refine HC.out.mono ?_
  rintro e w' ⟨rfl, rfl⟩
  go_wp2_with fail
  go_ret2
  exact ⟨rfl, rfl⟩
theorem blank_idx : ∀ l : Bs, (Lib.indexByte l 32 = (toBlank l : Int) ∧ toBlank l < l.length) ∨ (Lib.indexByte l 32 = -1 ∧ toBlank l = l.length)
  | [] => .inr ⟨rfl, rfl⟩
  | b :: l => by
    by_cases h : b = 32
    · left
      subst h
      refine ⟨?_, ?_⟩
      · rw [Lib.indexByte, toBlank]
        simp
      · rw [toBlank, if_pos rfl]
        simp
    · have hb : (b == 32) = false := by simpa using h
      rw [Lib.indexByte, toBlank, hb, if_neg (by simp), if_neg h]
      rcases blank_idx l with ⟨h1, h2⟩ | ⟨h1, h2⟩
      · left
        rw [h1, if_neg (by simp)]
        simp only [List.length_cons]
        refine ⟨by omega, by omega⟩
      · right
        rw [h1, if_pos (by simp)]
        simp only [List.length_cons]
        exact ⟨by first | rfl | trivial, by omega⟩
theorem ext_head (s : ByteArray) (k : Nat) : (s.extract 0 k).toList = s.toList.take k := by
  rw [ByteArray.toList_eq, ByteArray.toList_eq, ByteArray.data_extract, Array.toList_extract]
  simp
set_option maxRecDepth 100000 in
theorem cut_any (s : ByteArray) (w : World) (hs : s.size ≤ 1000000) : Calls Tryd.prog 57 #[.string s, .string ⟨#[32]⟩] w fun e w' => ∃ (P Q : ByteArray) (z : Bool), e = .returned (.tuple #[.string P, .string Q, .bool z]) ∧ P.toList = s.toList.take (toBlank s.toList) ∧ Kept w w' := by
  have hlen := bytes_len s
  rcases blank_idx s.toList with ⟨h1, h2⟩ | ⟨h1, h2⟩
  · obtain ⟨k, hk⟩ : ∃ k, toBlank s.toList = k := ⟨_, rfl⟩
    rw [hk] at h1 h2
    rw [ByteArray.toList_eq] at h1
    have HK := Lib.hid h1
    have HKK := Lib.hid hk
    have w3 : IntKind.i64.wrap ((k : Int) + 1) = (k : Int) + 1 := IntWalk.i64_in _ (by omega)
    have l1 : (0 : Int) ≤ k := by omega
    have l2 : (k : Int) ≤ s.size := by omega
    have l3 : (k : Int) + 1 ≤ s.size := by omega
    have l5 : (0 : Int) ≤ (k : Int) + 1 := by omega
    have l4 : ((k : Int) + 1).toNat = k + 1 := by omega
    clear hk h1 h2 hlen
    go_enter Tryd.func57, Tryd.ntmps57
    go_wp2_with (first | (go_at_call 68; refine (lib_stringslite_Index_one _ _ _).mono ?_; rintro e w1 ⟨rfl, rfl⟩; rw [HK.out]) | go_in)
    go_quiet (fail)
    all_goals go_wp2_with fail
    all_goals refine bodyPost_ret (v := .tuple #[.string (s.extract 0 k), .string (s.extract (k + 1) s.size), .bool true]) ?_ rfl ⟨s.extract 0 k, s.extract (k + 1) s.size, true, rfl, ?_, by repeat (first | (with_reducible exact Kept.refl _) | (with_reducible refine Kept.drewN ?_ _) | (with_reducible refine Kept.drew ?_))⟩
    all_goals first | (simp [results, Tryd.results57, go_sem]; done) | (rw [HKK.out]; exact ext_head s k)
  · have h3 : s.toList.take (toBlank s.toList) = s.toList := by rw [h2]; exact List.take_length
    rw [ByteArray.toList_eq] at h1
    have HK := Lib.hid h1
    have H3 := Lib.hid h3
    clear h1 h2 h3 hlen
    go_enter Tryd.func57, Tryd.ntmps57
    go_wp2_with (first | (go_at_call 68; refine (lib_stringslite_Index_one _ _ _).mono ?_; rintro e w1 ⟨rfl, rfl⟩; rw [HK.out]) | go_in)
    refine bodyPost_ret (v := .tuple #[.string s, .string ⟨#[]⟩, .bool false]) ?_ rfl ⟨s, ⟨#[]⟩, false, rfl, H3.out.symm, Kept.refl _⟩
    simp [results, Tryd.results57, go_sem]
theorem grown_setCell (w : World) (a : Addr) (u : Value) : w.grownBy (w.setCell a u) (some a.block) :=
  ⟨rfl, rfl, rfl, by simp, fun k _ hk => heap_setCell_other w a k u (fun e => hk (by rw [e]))⟩
theorem grown_kept {w w' : World} (h : Kept w w') (row : Option Nat) : w.grownBy w' row :=
  ⟨Below.os h, Below.tape h, Below.output h, Kept.size h, fun k hk _ => Below.block h k hk⟩
/-- The reader stands at a text. -/
def Rd (w : World) (g : Nat) (X : ByteArray) : Prop := Blk w g #[.string X] 82
theorem Rd.cell {w : World} {g : Nat} {X : ByteArray} (h : Rd w g X) : w.cell? ⟨g, 0, none⟩ = some (.string X) := Blk.cell h 0
theorem Rd.set {w : World} {g : Nat} {X : ByteArray} (h : Rd w g X) (Y : ByteArray) : Rd (w.setCell ⟨g, 0, none⟩ (.string Y)) g Y := Blk.set h 0 _
/-- What a part of the line gives. -/
def PartOf (g : Nat) (X : ByteArray) (w : World) (e : Ending) (w' : World) : Prop := ∃ P X' : ByteArray, e = .returned (.string P) ∧ P.toList = X.toList.take (toBlank X.toList) ∧ X'.toList = X.toList.drop (toBlank X.toList) ∧ Rd w' g X' ∧ w.grownBy w' (some g)
set_option maxHeartbeats 2000000 in
theorem part_any (g : Nat) (X : ByteArray) (w : World) (h : Rd w g X) (hX : X.size ≤ 1000000) : Calls Tryd.prog 43 #[.pointer (some ⟨g, 0, none⟩)] w fun e w' => PartOf g X w e w' := by
  have HC := Lib.hid (cut_any X w hX)
  have x0 := h.cell
  have HR := Lib.hid h
  clear h
  go_enter Tryd.func43, Tryd.ntmps43
  go_wp2_with fail
  refine HC.out.mono ?_
  rintro e w1 ⟨P, Q, z, rfl, hP, k1⟩
  have HP := Lib.hid hP
  have hr1 : Rd w1 g X := Blk.kept HR.out k1
  have x1 := hr1.cell
  have fr := Blk.frozen hr1 0
  have hb := toBlank_le X.toList
  have hl := congrArg List.length hP
  rw [List.length_take, bytes_len, bytes_len] at hl
  rw [bytes_len] at hb
  have l1 : (0 : Int) ≤ P.size := by omega
  have l2 : (P.size : Int) ≤ X.size := by omega
  have l3 : (P.size : Int).toNat = P.size := by omega
  have HX : Hid ((X.extract P.size X.size).toList = X.toList.drop (toBlank X.toList)) := by
    unfold Hid
    rw [ext_end]
    congr 1
    omega
  have HR1 := Lib.hid hr1
  clear hP hb hl hr1 x0 HC HR
  go_wp2_with fail
  go_ret
  exact ⟨P, _, rfl, HP.out, HX.out, HR1.out.set _, (grown_kept k1 _).trans (grown_setCell w1 ⟨g, 0, none⟩ _)⟩
/-- Is there a blank? -/
def blankB : Bs → Bool
  | [] => false
  | b :: _ => b == 32
theorem pre_blank (X : ByteArray) : preB ⟨#[32]⟩ X = blankB X.toList := by
  unfold preB
  cases hl : X.toList with
  | nil =>
    have : X.size = 0 := by rw [← bytes_len, hl]; rfl
    rw [show (⟨#[32]⟩ : ByteArray).size = 1 by rfl, this]
    rfl
  | cons b r =>
    have : X.size = r.length + 1 := by rw [← bytes_len, hl]; rfl
    rw [show (⟨#[32]⟩ : ByteArray).size = 1 by rfl, ext_head, hl, show (⟨#[32]⟩ : ByteArray).toList = [32] by rw [ByteArray.toList_eq], decide_eq_true (by omega)]
    show ([b] == [32]) = (b == 32)
    rw [Bool.eq_iff_iff]
    simp
def BlankOf (g : Nat) (X : ByteArray) (w : World) (e : Ending) (w' : World) : Prop := ∃ X' : ByteArray, e = .returned (.bool (blankB X.toList)) ∧ X'.toList = (if blankB X.toList then X.toList.drop 1 else X.toList) ∧ Rd w' g X' ∧ w.grownBy w' (some g)
theorem rblank_any (g : Nat) (X : ByteArray) (w : World) (h : Rd w g X) : Calls Tryd.prog 58 #[.pointer (some ⟨g, 0, none⟩)] w fun e w' => BlankOf g X w e w' := by
  have hc := cutPre_any X ⟨#[32]⟩ w
  have hX : (if preB ⟨#[32]⟩ X then X.extract (⟨#[32]⟩ : ByteArray).size X.size else X).toList = (if blankB X.toList then X.toList.drop 1 else X.toList) := by
    rw [pre_blank]
    split
    · rw [ext_end]
      rfl
    · rfl
  rw [pre_blank] at hc hX
  obtain ⟨Y, hY⟩ : ∃ Y, (if blankB X.toList then X.extract (⟨#[32]⟩ : ByteArray).size X.size else X) = Y := ⟨_, rfl⟩
  rw [hY] at hc hX
  have HC := Lib.hid hc
  have HX := Lib.hid hX
  have x0 := h.cell
  have fr := Blk.frozen h 0
  have HR := Lib.hid h
  obtain ⟨z, hz⟩ : ∃ z, blankB X.toList = z := ⟨_, rfl⟩
  rw [hz] at HC
  have HZ := Lib.hid hz
  clear h hc hX hY hz
  go_enter Tryd.func58, Tryd.ntmps58
  go_wp2_with fail
  refine HC.out.mono ?_
  rintro e w1 ⟨rfl, rfl⟩
  go_wp2_with fail
  go_ret
  exact ⟨Y, ret_bool HZ.out.symm, HX.out, HR.out.set _, grown_setCell w ⟨g, 0, none⟩ _⟩
end Go.Proofs.YtmcmicgdkdbgjaaDoor
