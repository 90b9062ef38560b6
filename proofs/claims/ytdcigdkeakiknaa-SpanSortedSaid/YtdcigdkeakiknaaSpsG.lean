/- The library's symMerge at diags: one element on a side, as a merge. No hole. -/
import Derived.Test.YtdcigdkeakiknaaSpsF
namespace Go.Proofs.Ytdcigdkeakiknaa
open Go.RowKit
attribute [local go_sem ↓] Go.wp_at_zero Go.wp_at_succ

/-- What symMerge does. -/
def Merges (B g n c : Nat) (X U V Y : List Dg) (w : World) (e : Ending) (w' : World) : Prop := e = .returned (.tuple #[]) ∧ w.grownBy w' (some g) ∧ ∃ W, W.Perm (U ++ V) ∧ InOrder ltD W ∧ Row B g n c w' (X ++ W ++ Y)
theorem sym_one (B g n c : Nat) (X U V Y : List Dg) (a m b : Nat) (w : World) (h : Row B g n c w (X ++ U ++ V ++ Y)) (ha : X.length = a) (hm : a + U.length = m) (hb : m + V.length = b) (hU : InOrder ltD U) (hV : InOrder ltD V) (hn : n ≤ 1000) (h1 : U.length = 1 ∨ (2 ≤ U.length ∧ V.length = 1)) :
    Calls Try.prog 32 #[.slice (some ⟨g, 0, none⟩) n c, .int .i64 (a : Int), .int .i64 (m : Int), .int .i64 (b : Int), .func (.func 25) #[] #[]] w fun e w' => Merges B g n c X U V Y w e w' := by
  rcases h1 with h1 | ⟨h2, h1⟩
  · obtain ⟨x, rfl⟩ : ∃ x, U = [x] := List.length_eq_one_iff.1 h1
    refine (sym1_any B g n c X V Y x a m b w h ha (by simpa using hm) hb hV hn).mono ?_
    rintro e w' ⟨he, hg, q, hq, hr, hlo, hhi⟩
    refine ⟨he, hg, V.take q ++ x :: V.drop q, ?_, put_one ltD_strict (by rw [List.take_append_drop]; exact hV) (fun y hy => ltD_strict.asymm (hlo y hy)) hhi, by simpa using hr⟩
    have e1 : [x] ++ V = x :: (V.take q ++ V.drop q) := by rw [List.take_append_drop]; rfl
    rw [e1]
    exact List.perm_middle
  · obtain ⟨x, rfl⟩ : ∃ x, V = [x] := List.length_eq_one_iff.1 h1
    refine (sym2_any B g n c X U Y x a m b w h ha hm h2 (by simpa using hb) hU hn).mono ?_
    rintro e w' ⟨he, hg, q, hq, hr, hlo, hhi⟩
    refine ⟨he, hg, U.take q ++ x :: U.drop q, ?_, put_one ltD_strict (by rw [List.take_append_drop]; exact hU) hlo (fun y hy => ltD_strict.asymm (hhi y hy)), by simpa using hr⟩
    have e1 : (U.take q ++ x :: U.drop q).Perm (x :: (U.take q ++ U.drop q)) := List.perm_middle
    rw [List.take_append_drop] at e1
    exact e1.trans (List.perm_append_singleton x U).symm
end Go.Proofs.Ytdcigdkeakiknaa
