/- The law 'InfoWith' holds: called with any arguments it returns true and leaves them as they were. No condition. -/
import Derived.Test.YtnlncamiaddhfaaInfJ
import Derived.Test.YtnlncamiaddhfaaInfQ
import Derived.Test.YtnlncamiaddhfaaLawO
import Derived.SizedLaws
namespace Go.Proofs.Ytnlncamiaddhfaa
open Go.ChangeShapes Go.WideShapes Go.ChangeAt Go.RowKit

set_option maxRecDepth 100000 in
theorem infoWith_lifted (os : Os) (started : os.Started) (H : Type) (enc : TypeId × Value → H) :
    ReturnsInHanded {} Try.checked os 5 .any (Rows.infoWithSpec.pre6 enc Try.prog Try.f5 Rows.infoWithRow.domain false) (Rows.infoWithSpec.post enc Try.prog Try.f5 false true false false) := by
  refine returnsInHanded_of_change_sized (C := Try.checked) own started (by kernel_rfl) Try.func5
    (ChangeSpec.witness6 (enc := enc) (C := Try.checked) false ⟨#[], #[.agg #[.int .i64 0, .string .empty, .string .empty, .string .empty, .slice none 0 0, .slice none 0 0, .string .empty, .string .empty, .slice none 0 0], .slice none 0 0, .slice none 0 0], []⟩ 8 (by kernel_rfl) (by kernel_rfl) (by kernel_rfl) (by kernel_rfl)) ?_
  intro W base args ds gs before hval0 hW _ hsz _
  have hval : ∀ (j : Nat) t v, Try.f5.params[j]? = some t → args[j]? = some v → Value.okWide Try.prog W .any base t v := hval0
  have hW' := hW
  obtain ⟨p, q, hA0, hV, _, _, _⟩ := hW
  have hA : DataW.TrodAll enc Try.prog W 0 (fun _ => true) true Try.f5.params.toList args.toList ds p := hA0
  clear hA0
  rw [Try.params5] at hA hval
  obtain ⟨v0, vs0, d0, ds0, p0, q0, hargs, rfl, _, h0, r0⟩ := trodAll_cons hA
  obtain ⟨v1, vs1, d1, ds1, p1, q1, rfl, rfl, _, h1, r1⟩ := trodAll_cons r0
  obtain ⟨v2, vs2, d2, ds2, p2, q2, rfl, rfl, _, h2, r2⟩ := trodAll_cons r1
  obtain ⟨rfl, rfl, _⟩ := trodAll_nil r2
  obtain rfl : args = #[v0, v1, v2] := by cases args; simp_all
  obtain ⟨rfl, _⟩ := trodVars_none hV
  obtain ⟨x0, rfl, ok0, t0⟩ := open_nd_arg (b := 140737488355328) (hval 0 28 v0 rfl rfl) h0
  have tx0 := t0 (fun m hm => by
    have h1 := List.all_eq_true.1 hsz m (DataW.weights_mem_each (j := 0) (t := 28) (d := d0) (by first | rfl | kernel_rfl) (by rfl) m hm)
    have h2 : m ≤ reachBytes := by simpa using h1
    exact Nat.le_trans h2 (by decide))
  obtain ⟨A1, n1, c1, L1, rfl, w1, t1⟩ := open_nds_arg (b := 140737488355328) (hval 1 26 v1 rfl rfl) h1
  obtain ⟨A2, n2, c2, a2, rfl, w2, z2⟩ := open_ints_sl Try.underlying45 Try.underlying3 (by kernel_rfl) (hval 2 45 v2 rfl rfl) h2
  have tx1 := t1 (fun m hm => by
    have h1 := List.all_eq_true.1 hsz m (DataW.weights_mem_each (j := 1) (t := 26) (d := d1) (by first | rfl | kernel_rfl) (by rfl) m hm)
    have h2 : m ≤ reachBytes := by simpa using h1
    exact Nat.le_trans h2 (by decide))
  refine (infoWith_any x0 A1 n1 c1 L1 A2 n2 c2 a2 W ok0 tx0 w1 tx1 w2 (fun z hz => i64_bd (z2 z hz))).mono fun e W' ⟨he, hg⟩ => ?_
  subst he
  exact ⟨_, rfl, law_post laidOut (by kernel_rfl) rfl (by kernel_rfl) Try.underlying4 hW' rfl hg⟩

theorem infoWith_holds : Rows.InfoWithSaid :=
  OpenClaim.holds_of_wide 5 Try.f5 rfl rfl rfl rfl rfl rfl rfl ⟨rfl, rfl, rfl, rfl, rfl⟩ rfl rfl rfl rfl rfl (by kernel_rfl) Try.func5 (by kernel_rfl)
    (of_decide_eq_true (by kernel_rfl)) (by unfold Func.isWrapper; first | (rw [if_pos (by decide +kernel)]; kernel_rfl) | (rw [if_neg (by decide +kernel)]; exact ⟨rfl, rfl⟩))
    (fun os started H enc _ => infoWith_lifted os started H enc)

end Go.Proofs.Ytnlncamiaddhfaa
