/- strings.FieldsFunc: the shelf's contract laid at this program (printed by wip/laygen.py). -/
import Derived.Shelf.Strings.FieldsFuncAny
import Derived.Test.YtmicmmbdkmmnoaaProg
namespace Go.Proofs.Ytmicmmbdkmmnoaa
open Go.Shelf
def fieldsRen : Go.Shelf.Ren := ⟨fun | 229 => 42 | n => n, fun | 0 => 0 | 3 => 3 | 4 => 4 | 9 => 9 | 21 => 21 | 31 => 51 | 40 => 78 | 152 => 106 | 154 => 108 | n => n, fun | n => n⟩
set_option maxRecDepth 100000 in
theorem fieldsLays : Lays.n229 Try.prog fieldsRen := {
  mixed := by kernel_rfl
  f229 := Try.func42.trans (congrArg some (by kernel_rfl))
  t0 := Try.underlying0
  a0 := Try.isAgg0
  z0 := Try.sizeOf0
  v0 := Try.zeroValue0
  t3 := Try.underlying3
  a3 := Try.isAgg3
  z3 := Try.sizeOf3
  v3 := Try.zeroValue3
  t4 := Try.underlying4
  a4 := Try.isAgg4
  z4 := Try.sizeOf4
  v4 := Try.zeroValue4
  t9 := Try.underlying9
  a9 := Try.isAgg9
  z9 := Try.sizeOf9
  v9 := Try.zeroValue9
  t21 := Try.underlying21
  a21 := Try.isAgg21
  z21 := Try.sizeOf21
  v21 := Try.zeroValue21
  t31 := Try.underlying51
  a31 := Try.isAgg51
  z31 := Try.sizeOf51
  v31 := Try.zeroValue51
  t40 := Try.underlying78
  a40 := Try.isAgg78
  z40 := Try.sizeOf78
  v40 := Try.zeroValue78
  t152 := Try.underlying106
  a152 := Try.isAgg106
  z152 := Try.sizeOf106
  v152 := Try.zeroValue106
  t154 := Try.underlying108
  a154 := Try.isAgg108
  z154 := Try.sizeOf108
  v154 := Try.zeroValue108 }
open Go.RowKit Go.Lib in
theorem fieldsFunc_runes (g : Nat) (lb : Array Value) (eg : ∀ args w, (callFunc g args).run Try.prog w = .ok (.enter g args) w) (p : Nat → Bool) (s : ByteArray) (w : World) (hs : s.size ≤ 4294967296) (hp : PredAtRunes Try.prog g lb p w) :
    Calls Try.prog 42 #[.string s, .func (.func g) #[] lb] w fun e w' => ∃ A, e = .returned (.slice (some ⟨A, 0, none⟩) (Lib.goFieldsP p s).length (Lib.goFieldsP p s).length) ∧ w.heap.size ≤ A ∧
      w'.ownsRow w.heap.size 9 1 (.slice (some ⟨A, 0, none⟩) (Lib.goFieldsP p s).length (Lib.goFieldsP p s).length) (Lib.goFieldsP p s).length ((Lib.goFieldsP p s).map Value.string) ∧ Below w.heap.size w w' := Any.strings_FieldsFunc_runes fieldsLays g lb eg p s w hs hp (by kernel_rfl) (by kernel_rfl)
end Go.Proofs.Ytmicmmbdkmmnoaa
