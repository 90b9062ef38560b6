/- Runs of runes, names' lengths: walked. -/
import Derived.Test.YtmcmicgdkdbgjaaDoorClassW
import Derived.Test.YtmcmicgdkdbgjaaDoorLexP
import Derived.Test.YtmcmicgdkdbgjaaDoorApp
namespace Go.Proofs.YtmcmicgdkdbgjaaDoor
open Go.RowKit

theorem drop_get {α : Type} {l : List α} {k : Nat} {x : α} (h : l[k]? = some x) : l.drop k = x :: l.drop (k + 1) := by
  obtain ⟨hk, rfl⟩ := List.getElem?_eq_some_iff.1 h
  exact List.drop_eq_getElem_cons hk
theorem runF_yes {p : Int → Bool} {l : List Int} {k : Nat} {x : Int} (h : l[k]? = some x) (hp : p x = true) : runF p (l.drop k) = 1 + runF p (l.drop (k + 1)) := by
  rw [drop_get h, runF, List.takeWhile_cons, if_pos hp, List.length_cons]
  unfold runF
  omega
theorem runF_no {p : Int → Bool} {l : List Int} {k : Nat} {x : Int} (h : l[k]? = some x) (hp : p x = false) : runF p (l.drop k) = 0 := by
  rw [drop_get h, runF, List.takeWhile_cons, if_neg (by simp [hp])]
  rfl
theorem runF_end {p : Int → Bool} {l : List Int} {k : Nat} (h : l.length ≤ k) : runF p (l.drop k) = 0 := by
  rw [List.drop_eq_nil_of_le h]
  rfl
theorem runF_le (p : Int → Bool) (s : List Int) : runF p s ≤ s.length := by
  unfold runF
  induction s with
  | nil => simp
  | cons x s ih =>
    rw [List.takeWhile_cons]
    split <;> simp
    exact ih

theorem enters {P : Program} {f : FuncId} {fn : Func} (hf : P.funcs[f]? = some fn) (hname : (fn.name == "runtime.NumGoroutine") = false) (hb : fn.body.isSome = true) (args : Array Value) (w : World) :
    (callFunc f args).run P w = .ok (.enter f args) w := by
  have h1 : fn.name ≠ "runtime.NumGoroutine" := by simpa using hname
  obtain ⟨c, hc⟩ := Option.isSome_iff_exists.1 hb
  simp [callFunc, hf, h1, hc]
theorem startsF_nil (s : List Int) : startsF [] s = true := rfl
theorem startsF_cons (a : Int) (p : List Int) (x : Int) (s : List Int) : startsF (a :: p) (x :: s) = (a == x && startsF p s) := rfl
theorem startsF_short {p s : List Int} (h : s.length < p.length) : startsF p s = false := by
  unfold startsF
  rw [← Bool.not_eq_true, List.isPrefixOf_iff_prefix]
  intro hp
  have := hp.length_le
  omega
end Go.Proofs.YtmcmicgdkdbgjaaDoor
