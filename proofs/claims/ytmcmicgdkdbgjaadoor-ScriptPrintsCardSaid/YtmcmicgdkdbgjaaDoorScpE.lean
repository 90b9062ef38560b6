/- strings.Join laid at this dump; paths as text: path.Print and the document's, walked. -/
import Derived.Shelf.Strings.OnBuilder
import Derived.Test.YtmcmicgdkdbgjaaDoorScpD
namespace Go.Proofs.YtmcmicgdkdbgjaaDoor
open Go.Shelf Go.RowKit
attribute [local go_sem ↓] Go.wp_at_zero Go.wp_at_succ

def joinRen : Go.Shelf.Ren := ⟨fun | 156 => 51 | 165 => 63 | 166 => 29 | 169 => 30 | 240 => 47 | 241 => 72 | 276 => 62 | 277 => 79 | n => n, fun | 0 => 0 | 3 => 3 | 4 => 4 | 5 => 5 | 9 => 9 | 20 => 20 | 31 => 53 | 37 => 49 | 70 => 60 | 72 => 62 | 75 => 64 | 76 => 66 | 80 => 69 | 127 => 87 | 164 => 98 | n => n, fun | n => n⟩
set_option maxRecDepth 100000 in
theorem joinLays : Lays.n156 Tryd.prog joinRen := {
  mixed := by kernel_rfl
  f156 := Tryd.func51.trans (congrArg some (by kernel_rfl))
  f165 := Tryd.func63.trans (congrArg some (by kernel_rfl))
  f166 := Tryd.func29.trans (congrArg some (by kernel_rfl))
  f169 := Tryd.func30.trans (congrArg some (by kernel_rfl))
  f240 := Tryd.func47.trans (congrArg some (by kernel_rfl))
  f241 := Tryd.func72.trans (congrArg some (by kernel_rfl))
  f276 := Tryd.func62.trans (congrArg some (by kernel_rfl))
  f277 := Tryd.func79.trans (congrArg some (by kernel_rfl))
  t0 := Tryd.underlying0
  a0 := Tryd.isAgg0
  z0 := Tryd.sizeOf0
  v0 := Tryd.zeroValue0
  t3 := Tryd.underlying3
  a3 := Tryd.isAgg3
  z3 := Tryd.sizeOf3
  v3 := Tryd.zeroValue3
  t4 := Tryd.underlying4
  a4 := Tryd.isAgg4
  z4 := Tryd.sizeOf4
  v4 := Tryd.zeroValue4
  t9 := Tryd.underlying9
  a9 := Tryd.isAgg9
  z9 := Tryd.sizeOf9
  v9 := Tryd.zeroValue9
  t20 := Tryd.underlying20
  a20 := Tryd.isAgg20
  z20 := Tryd.sizeOf20
  v20 := Tryd.zeroValue20
  t31 := Tryd.underlying53
  a31 := Tryd.isAgg53
  z31 := Tryd.sizeOf53
  v31 := Tryd.zeroValue53
  t37 := Tryd.underlying49
  a37 := Tryd.isAgg49
  z37 := Tryd.sizeOf49
  v37 := Tryd.zeroValue49
  t70 := Tryd.underlying60
  a70 := Tryd.isAgg60
  z70 := Tryd.sizeOf60
  v70 := Tryd.zeroValue60
  t72 := Tryd.underlying62
  a72 := Tryd.isAgg62
  z72 := Tryd.sizeOf62
  v72 := Tryd.zeroValue62
  t75 := Tryd.underlying64
  a75 := Tryd.isAgg64
  z75 := Tryd.sizeOf64
  v75 := Tryd.zeroValue64
  t76 := Tryd.underlying66
  a76 := Tryd.isAgg66
  z76 := Tryd.sizeOf66
  v76 := Tryd.zeroValue66
  t127 := Tryd.underlying87
  a127 := Tryd.isAgg87
  z127 := Tryd.sizeOf87
  v127 := Tryd.zeroValue87
  t164 := Tryd.underlying98
  a164 := Tryd.isAgg98
  z164 := Tryd.sizeOf98
  v164 := Tryd.zeroValue98 }
theorem joinX : Builder.Extra Tryd.prog joinRen where
  sizeBuilder := by kernel_rfl
  liesBuilder := by kernel_rfl
  t5 := Tryd.underlying5
  a5 := Tryd.isAgg5
  z5 := Tryd.sizeOf5
  v5 := Tryd.zeroValue5
  infoByte := by kernel_rfl
  cellsByte := by kernel_rfl
  sizeByte := by kernel_rfl
  neB5 := by decide
def joinB (L : List ByteArray) : Bs := Lib.join (L.map (·.data.toList)) [47]
theorem join_any (A : Option Addr) (n c : Nat) (L : List ByteArray) (w : World) (h : Sl w 1 A n c (L.map Value.string)) (h0 : 0 < n) (hn : n ≤ 100000) (hlen : (joinB L).length ≤ 100000) :
    Calls Tryd.prog 51 #[.slice A n c, .string ⟨#[47]⟩] w fun e w' => e = .returned (.string (strB (joinB L))) ∧ Kept w w' := by
  have hl := h.llen1
  have hcap := h.cap
  obtain ⟨b, o, x, rfl, hx, x0⟩ := h.one h0
  have hbl := World.block_lt_of_cell? _ _ x0
  obtain ⟨b', o', e, hc⟩ := h.at_ h0
  injection e with e
  injection e with e1 e2
  subst e1 e2
  subst hl
  exact Any.strings_Join joinLays joinX b o c L ⟨#[47]⟩ w (fun j x hx => hc j _ (by rw [List.getElem?_map, hx]; rfl)) hbl (by omega) hcap (by show (joinB L).length ≤ _; omega)
end Go.Proofs.YtmcmicgdkdbgjaaDoor
