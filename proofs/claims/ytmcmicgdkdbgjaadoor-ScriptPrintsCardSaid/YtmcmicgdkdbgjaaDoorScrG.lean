/- The reader of a line: paths, numbers, texts in quotes, walked. -/
import Derived.Test.YtmcmicgdkdbgjaaDoorScrF
namespace Go.Proofs.YtmcmicgdkdbgjaaDoor
open Go.RowKit
attribute [local go_sem ↓] Go.wp_at_zero Go.wp_at_succ

/-- Where the reader stands behind a part. -/
def RdBehind (g : Nat) (w w' : World) (l : Bs) : Prop := (∃ X' : ByteArray, X'.toList = l ∧ Rd w' g X') ∧ w.grownBy w' (some g)
def RPathOf (g : Nat) (X : ByteArray) (w : World) (e : Ending) (w' : World) : Prop := RdBehind g w w' (X.toList.drop (toBlank X.toList)) ∧ match pathF (X.toList.take (toBlank X.toList)) with
  | none => e = .returned (.tuple #[.slice none 0 0, .bool false])
  | some p => ∃ VA VC, e = .returned (.tuple #[.slice VA p.length VC, .bool true]) ∧ Sl w' 1 VA p.length VC (p.map natV) ∧ ∀ b o, VA = some ⟨b, o, none⟩ → w.heap.size ≤ b
theorem take_le {X P : ByteArray} {k : Nat} (h : P.toList = X.toList.take k) : P.size ≤ X.size := by
  have hl := congrArg List.length h
  rw [List.length_take, bytes_len, bytes_len] at hl
  omega
set_option maxHeartbeats 2000000 in
theorem rpath_any (g : Nat) (X : ByteArray) (w : World) (h : Rd w g X) (hX : X.size ≤ 1000000) : Calls Tryd.prog 59 #[.pointer (some ⟨g, 0, none⟩)] w fun e w' => RPathOf g X w e w' := by
  have HC := Lib.hid (part_any g X w h hX)
  clear h
  go_enter Tryd.func59, Tryd.ntmps59
  go_wp2_with fail
  refine HC.out.mono ?_
  rintro e w1 ⟨P, X', rfl, hP, hX', hr1, g1⟩
  have hp := pread_any P w1 (Nat.le_trans (take_le hP) hX)
  rw [hP] at hp
  have HX' := Lib.hid hX'
  have HR1 := Lib.hid hr1
  obtain ⟨z, hz⟩ : ∃ z, pathF (X.toList.take (toBlank X.toList)) = z := ⟨_, rfl⟩
  rw [hz] at hp
  have HZ := Lib.hid hz
  have HPP := Lib.hid hp
  clear hP hX' hr1 hp hz
  cases z with
  | none =>
    have HP0 : Hid (Calls Tryd.prog 71 #[.string P] w1 fun e w' => e = .returned (.tuple #[.slice none 0 0, .bool false]) ∧ Kept w1 w') := by
      refine HPP.out.mono ?_
      rintro e w' ⟨h1, h2⟩
      exact ⟨h2, h1⟩
    clear HPP
    go_wp2_with fail
    refine HP0.out.mono ?_
    rintro e w2 ⟨rfl, k2⟩
    go_wp2_with fail
    go_ret2
    refine ⟨⟨⟨X', HX'.out, Blk.kept HR1.out k2⟩, g1.trans (grown_kept k2 _)⟩, ?_⟩
    rw [HZ.out]
    rfl
  | some p =>
    have HP0 : Hid (Calls Tryd.prog 71 #[.string P] w1 fun e w' => ∃ VA VC, e = .returned (.tuple #[.slice VA p.length VC, .bool true]) ∧ Sl w' 1 VA p.length VC (p.map natV) ∧ (∀ b o, VA = some ⟨b, o, none⟩ → w1.heap.size ≤ b) ∧ Kept w1 w') := by
      refine HPP.out.mono ?_
      rintro e w' ⟨h1, VA, VC, h2, h3, h4⟩
      exact ⟨VA, VC, h2, h3, h4, h1⟩
    clear HPP
    go_wp2_with fail
    refine HP0.out.mono ?_
    rintro e w2 ⟨VA, VC, rfl, hV, hb, k2⟩
    have HB := Lib.hid hb
    obtain ⟨m, hm⟩ : ∃ m, p.length = m := ⟨_, rfl⟩
    rw [hm] at hV ⊢
    have HM := Lib.hid hm
    clear hb hm
    go_wp2_with fail
    go_ret2
    refine ⟨⟨⟨X', HX'.out, Blk.kept HR1.out k2⟩, g1.trans (grown_kept k2 _)⟩, ?_⟩
    rw [HZ.out]
    exact ⟨VA, VC, by rw [HM.out]; rfl, by rw [HM.out]; exact hV, fun b o e => Nat.le_trans (World.grownBy.size g1) (HB.out b o e)⟩
def RNumOf (g : Nat) (X : ByteArray) (w : World) (e : Ending) (w' : World) : Prop := RdBehind g w w' (X.toList.drop (toBlank X.toList)) ∧ match pathF (X.toList.take (toBlank X.toList)) with
  | some [n] => e = .returned (.tuple #[.int .i64 (n : Int), .bool true])
  | _ => e = .returned (.tuple #[.int .i64 0, .bool false])
set_option maxHeartbeats 2000000 in
theorem rnum_any (g : Nat) (X : ByteArray) (w : World) (h : Rd w g X) (hX : X.size ≤ 1000000) : Calls Tryd.prog 60 #[.pointer (some ⟨g, 0, none⟩)] w fun e w' => RNumOf g X w e w' := by
  have HC := Lib.hid (part_any g X w h hX)
  clear h
  go_enter Tryd.func60, Tryd.ntmps60
  go_wp2_with fail
  refine HC.out.mono ?_
  rintro e w1 ⟨P, X', rfl, hP, hX', hr1, g1⟩
  have hp := pread_any P w1 (Nat.le_trans (take_le hP) hX)
  rw [hP] at hp
  have HX' := Lib.hid hX'
  have HR1 := Lib.hid hr1
  obtain ⟨z, hz⟩ : ∃ z, pathF (X.toList.take (toBlank X.toList)) = z := ⟨_, rfl⟩
  rw [hz] at hp
  have HZ := Lib.hid hz
  have HPP := Lib.hid hp
  clear hP hX' hr1 hp hz
  cases z with
  | none =>
    have HP0 : Hid (Calls Tryd.prog 71 #[.string P] w1 fun e w' => e = .returned (.tuple #[.slice none 0 0, .bool false]) ∧ Kept w1 w') := by
      refine HPP.out.mono ?_
      rintro e w' ⟨h1, h2⟩
      exact ⟨h2, h1⟩
    clear HPP
    go_wp2_with fail
    refine HP0.out.mono ?_
    rintro e w2 ⟨rfl, k2⟩
    go_wp2_with fail
    go_ret2
    refine ⟨⟨⟨X', HX'.out, Blk.kept HR1.out k2⟩, g1.trans (grown_kept k2 _)⟩, ?_⟩
    rw [HZ.out]
    rfl
  | some p =>
    have HP0 : Hid (Calls Tryd.prog 71 #[.string P] w1 fun e w' => ∃ VA VC, e = .returned (.tuple #[.slice VA p.length VC, .bool true]) ∧ Sl w' 1 VA p.length VC (p.map natV) ∧ Kept w1 w') := by
      refine HPP.out.mono ?_
      rintro e w' ⟨h1, VA, VC, h2, h3, h4⟩
      exact ⟨VA, VC, h2, h3, h1⟩
    clear HPP
    by_cases h1 : p.length = 1
    · obtain ⟨n, rfl⟩ : ∃ n, p = [n] := List.length_eq_one_iff.1 h1
      clear h1
      go_wp2_with fail
      refine HP0.out.mono ?_
      rintro e w2 ⟨VA, VC, rfl, hV, k2⟩
      obtain ⟨b, o, u, rfl, hu, u0⟩ := hV.one (by simp : 0 < [n].length)
      obtain rfl : n = u := by simpa using hu
      have u1 : w2.cell? ⟨b, o, none⟩ = some (.int .i64 (n : Int)) := by
        rw [Nat.add_zero] at u0
        exact u0
      have d1 : (((1 : Nat) : Int) != 1) = false := rfl
      have hcap := hV.cap
      have hcm := hV.max
      clear hu u0
      go_wp2_with fail
      go_ret2
      refine ⟨⟨⟨X', HX'.out, Blk.kept HR1.out k2⟩, g1.trans (grown_kept k2 _)⟩, ?_⟩
      rw [HZ.out]
      rfl
    · obtain ⟨m, hm⟩ : ∃ m, p.length = m := ⟨_, rfl⟩
      rw [hm] at HP0 h1
      have d1 : ((m : Int) != 1) = true := by simp; omega
      have HMM := Lib.hid hm
      clear hm
      go_wp2_with fail
      refine HP0.out.mono ?_
      rintro e w2 ⟨VA, VC, rfl, hV, k2⟩
      have H1 := Lib.hid h1
      clear h1
      go_wp2_with fail
      go_ret2
      refine ⟨⟨⟨X', HX'.out, Blk.kept HR1.out k2⟩, g1.trans (grown_kept k2 _)⟩, ?_⟩
      rw [HZ.out]
      have hm := HMM.out
      have h1 := H1.out
      match p, hm with
      | [], _ => rfl
      | [_], hm => exact absurd hm.symm h1
      | _ :: _ :: _, _ => rfl
def RQuoOf (g : Nat) (X : ByteArray) (w : World) (e : Ending) (w' : World) : Prop := match readF X.toList with
  | none => e = .returned (.tuple #[.string ⟨#[]⟩, .bool false]) ∧ RdBehind g w w' X.toList
  | some x => e = .returned (.tuple #[.string (strB x.1), .bool true]) ∧ RdBehind g w w' (X.toList.drop x.2)
set_option maxHeartbeats 2000000 in
theorem rquo_any (g : Nat) (X : ByteArray) (w : World) (h : Rd w g X) (hX : X.size ≤ 1000000) : Calls Tryd.prog 61 #[.pointer (some ⟨g, 0, none⟩)] w fun e w' => RQuoOf g X w e w' := by
  have hc := sread_any X w hX
  have x0 := h.cell
  have HR := Lib.hid h
  cases hz : readF X.toList with
  | none =>
    have HZ := Lib.hid hz
    rw [hz] at hc
    have HC : Hid (Calls Tryd.prog 8 #[.string X] w fun e w' => e = .returned (.tuple #[.string ⟨#[]⟩, .int .i64 0, .bool false]) ∧ Kept w w') := hc
    have l2 : (0 : Int) ≤ X.size := by omega
    clear hc hz h
    go_enter Tryd.func61, Tryd.ntmps61
    go_wp2_with fail
    refine HC.out.mono ?_
    rintro e w1 ⟨rfl, k1⟩
    have hr1 : Rd w1 g X := Blk.kept HR.out k1
    have x1 := hr1.cell
    have fr := Blk.frozen hr1 0
    have HR1 := Lib.hid hr1
    clear hr1 x0
    go_wp2_with fail
    go_ret2
    unfold RQuoOf
    rw [HZ.out]
    exact ⟨rfl, ⟨X, rfl, HR1.out.set X⟩, (grown_kept k1 _).trans (grown_setCell w1 ⟨g, 0, none⟩ _)⟩
  | some q =>
    obtain ⟨t, n⟩ := q
    have HZ := Lib.hid hz
    have hn := (readF_le hz).1
    rw [hz] at hc
    have HC : Hid (Calls Tryd.prog 8 #[.string X] w fun e w' => e = .returned (.tuple #[.string (strB t), .int .i64 (n : Int), .bool true]) ∧ Kept w w') := hc
    rw [bytes_len] at hn
    have l1 : (0 : Int) ≤ n := by omega
    have l2 : (n : Int) ≤ X.size := by omega
    have l3 : (n : Int).toNat = n := by omega
    have HX : Hid ((X.extract n X.size).toList = X.toList.drop n) := ext_end X n
    clear hc hz h hn
    go_enter Tryd.func61, Tryd.ntmps61
    go_wp2_with fail
    refine HC.out.mono ?_
    rintro e w1 ⟨rfl, k1⟩
    have hr1 : Rd w1 g X := Blk.kept HR.out k1
    have x1 := hr1.cell
    have fr := Blk.frozen hr1 0
    have HR1 := Lib.hid hr1
    clear hr1 x0
    go_wp2_with fail
    go_ret2
    unfold RQuoOf
    rw [HZ.out]
    exact ⟨rfl, ⟨_, HX.out, HR1.out.set _⟩, (grown_kept k1 _).trans (grown_setCell w1 ⟨g, 0, none⟩ _)⟩
end Go.Proofs.YtmcmicgdkdbgjaaDoor
