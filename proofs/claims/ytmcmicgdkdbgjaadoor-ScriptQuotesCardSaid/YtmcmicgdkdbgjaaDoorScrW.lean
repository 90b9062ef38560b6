/- The law ScriptQuotes, walked. -/
import Derived.Test.YtmcmicgdkdbgjaaDoorScrZ
import Derived.Test.YtmcmicgdkdbgjaaDoorScrK
namespace Go.Proofs.YtmcmicgdkdbgjaaDoor
open Go.RowKit
attribute [local go_sem ↓] Go.wp_at_zero Go.wp_at_succ

theorem strB_toList (s : ByteArray) : strB s.toList = s := by
  apply cstr_eq
  rw [strB_list]
set_option maxRecDepth 100000 in
set_option maxHeartbeats 4000000 in
theorem scriptQuotes_any (s more : ByteArray) (w : World) : Calls Tryd.prog 5 #[.string s, .string more] w fun e w' => e = .returned (.bool true) ∧ Kept w w' := by
  have HS : Hid (Calls Tryd.prog 7 #[.string s, .int .i64 60] w fun e w' => ∃ P : ByteArray, e = .returned (.string P) ∧ P.size ≤ 60 ∧ w = w') := short_any s 60 w (by omega)
  have HM : Hid (Calls Tryd.prog 7 #[.string more, .int .i64 20] w fun e w' => ∃ P : ByteArray, e = .returned (.string P) ∧ P.size ≤ 20 ∧ w = w') := short_any more 20 w (by omega)
  go_enter Tryd.func5, Tryd.ntmps5
  go_wp2_with fail
  refine HS.out.mono ?_
  rintro e w1 ⟨P, rfl, hP, rfl⟩
  go_wp2_with fail
  refine HM.out.mono ?_
  rintro e w1 ⟨M, rfl, hM, rfl⟩
  have h1 := quoted_any P w (by omega)
  have h2 := fun w' => rquoted_any P w' (by omega)
  have HA := Lib.hid (fun w' => awake_any w')
  have hq := quoted_len P.toList
  rw [bytes_len] at hq
  have hqs := strB_size (quotedF P.toList)
  have hr := read_quoted P.toList M.toList
  rw [← hqs] at hr
  have hl : (strB (quotedF P.toList) ++ M).toList = quotedF P.toList ++ M.toList := by rw [toList_app, strB_list]
  rw [← hl] at hr
  generalize strB (quotedF P.toList) = Q at h1 h2 hqs hr
  have hQ : Q.size ≤ 242 := by omega
  have H3 : Hid (∀ w', Calls Tryd.prog 8 #[.string (Q ++ M)] w' fun e w'' => e = .returned (.tuple #[.string P, .int .i64 (Q.size : Int), .bool true]) ∧ Kept w' w'') := by
    intro w'
    have := sread_any (Q ++ M) w' (by rw [ByteArray.size_append]; omega)
    rw [hr] at this
    show Calls _ _ _ _ _
    have e : readV (some (P.toList, Q.size)) = .tuple #[.string P, .int .i64 (Q.size : Int), .bool true] := by
      unfold readV
      dsimp only
      rw [strB_toList]
    rw [e] at this
    exact this
  have H1 := Lib.hid h1
  have H2 := Lib.hid h2
  clear h1 h2 hq hqs hr hl
  go_wp2_with fail
  refine H1.out.mono ?_
  rintro e w2 ⟨rfl, k2⟩
  go_wp2_with fail
  refine (H3.out _).mono ?_
  rintro e w3 ⟨rfl, k3⟩
  go_wp2_with fail
  refine (H2.out _).mono ?_
  rintro e w4 ⟨rfl, k4⟩
  go_wp2_with fail
  refine (HA.out _).mono ?_
  rintro e w5 ⟨rfl, k5⟩
  go_wp2_with fail
  go_ret
  exact ⟨rfl, ((k2.trans k3).trans k4).trans k5⟩
end Go.Proofs.YtmcmicgdkdbgjaaDoor
