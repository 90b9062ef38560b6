/- The Builder's methods at this dump: laid by the shelf's own statements (printed by wip/gen/gen_scrx.py). -/
import Derived.Shelf.Strings.Builder1
import Derived.Shelf.Strings.Builder2
import Derived.Test.YtmcmicgdkdbgjaaDoorScrV
import Derived.Test.YtmcmicgdkdbgjaaDoorScrB
namespace Go.Proofs.YtmcmicgdkdbgjaaDoor
open Go.Shelf Go.RowKit

def bRen : Go.Shelf.Ren := ⟨fun | 166 => 29 | 167 => 28 | 169 => 30 | 240 => 47 | 276 => 62 | n => n, fun | 0 => 0 | 1 => 1 | 2 => 2 | 3 => 3 | 4 => 4 | 5 => 5 | 6 => 6 | 7 => 7 | 8 => 8 | 9 => 9 | 10 => 10 | 11 => 11 | 12 => 12 | 13 => 13 | 14 => 14 | 15 => 15 | 16 => 16 | 17 => 17 | 18 => 18 | 19 => 19 | 20 => 20 | 21 => 21 | 22 => 40 | 24 => 96 | 25 => 103 | 26 => 22 | 27 => 90 | 28 => 35 | 31 => 53 | 34 => 59 | 37 => 49 | 45 => 73 | 46 => 68 | 48 => 52 | 51 => 111 | 55 => 78 | 59 => 91 | 60 => 92 | 61 => 54 | 67 => 88 | 69 => 39 | 70 => 60 | 71 => 61 | 72 => 62 | 73 => 100 | 74 => 63 | 75 => 64 | 76 => 66 | 77 => 67 | 78 => 65 | 80 => 69 | 81 => 119 | 83 => 70 | 103 => 84 | 104 => 26 | 105 => 101 | 106 => 102 | 113 => 79 | 114 => 104 | 119 => 107 | 127 => 87 | 131 => 94 | 137 => 108 | 138 => 109 | 139 => 110 | 144 => 81 | 146 => 112 | 150 => 89 | 151 => 113 | 164 => 98 | 165 => 99 | 166 => 106 | 238 => 114 | 239 => 115 | 240 => 116 | 241 => 117 | 242 => 118 | 243 => 120 | 244 => 121 | 245 => 122 | 246 => 123 | 247 => 124 | 248 => 125 | 249 => 126 | n => n, fun | n => n⟩
set_option maxRecDepth 100000 in
theorem bLays167 : Go.Proofs.Lays.n167 Tryd.prog bRen := {
  mixed := by kernel_rfl
  f167 := Tryd.func28.trans (congrArg some (by kernel_rfl))
  f240 := Tryd.func47.trans (congrArg some (by kernel_rfl))
  f276 := Tryd.func62.trans (congrArg some (by kernel_rfl))
  t0 := Tryd.underlying0
  a0 := Tryd.isAgg0
  z0 := Tryd.sizeOf0
  v0 := Tryd.zeroValue0
  t4 := Tryd.underlying4
  a4 := Tryd.isAgg4
  z4 := Tryd.sizeOf4
  v4 := Tryd.zeroValue4
  t5 := Tryd.underlying5
  a5 := Tryd.isAgg5
  z5 := Tryd.sizeOf5
  v5 := Tryd.zeroValue5
  t9 := Tryd.underlying9
  a9 := Tryd.isAgg9
  z9 := Tryd.sizeOf9
  v9 := Tryd.zeroValue9
  t20 := Tryd.underlying20
  a20 := Tryd.isAgg20
  z20 := Tryd.sizeOf20
  v20 := Tryd.zeroValue20
  t37 := Tryd.underlying49
  a37 := Tryd.isAgg49
  z37 := Tryd.sizeOf49
  v37 := Tryd.zeroValue49
  t70 := Tryd.underlying60
  a70 := Tryd.isAgg60
  z70 := Tryd.sizeOf60
  v70 := Tryd.zeroValue60
  t72 := Tryd.underlying62
  a72 := Tryd.isAgg62
  z72 := Tryd.sizeOf62
  v72 := Tryd.zeroValue62
  t75 := Tryd.underlying64
  a75 := Tryd.isAgg64
  z75 := Tryd.sizeOf64
  v75 := Tryd.zeroValue64
  t164 := Tryd.underlying98
  a164 := Tryd.isAgg98
  z164 := Tryd.sizeOf98
  v164 := Tryd.zeroValue98 }
set_option maxRecDepth 100000 in
theorem bLays166 : Go.Proofs.Lays.n166 Tryd.prog bRen := {
  mixed := by kernel_rfl
  f166 := Tryd.func29.trans (congrArg some (by kernel_rfl))
  f240 := Tryd.func47.trans (congrArg some (by kernel_rfl))
  f276 := Tryd.func62.trans (congrArg some (by kernel_rfl))
  t0 := Tryd.underlying0
  a0 := Tryd.isAgg0
  z0 := Tryd.sizeOf0
  v0 := Tryd.zeroValue0
  t3 := Tryd.underlying3
  a3 := Tryd.isAgg3
  z3 := Tryd.sizeOf3
  v3 := Tryd.zeroValue3
  t4 := Tryd.underlying4
  a4 := Tryd.isAgg4
  z4 := Tryd.sizeOf4
  v4 := Tryd.zeroValue4
  t9 := Tryd.underlying9
  a9 := Tryd.isAgg9
  z9 := Tryd.sizeOf9
  v9 := Tryd.zeroValue9
  t20 := Tryd.underlying20
  a20 := Tryd.isAgg20
  z20 := Tryd.sizeOf20
  v20 := Tryd.zeroValue20
  t37 := Tryd.underlying49
  a37 := Tryd.isAgg49
  z37 := Tryd.sizeOf49
  v37 := Tryd.zeroValue49
  t70 := Tryd.underlying60
  a70 := Tryd.isAgg60
  z70 := Tryd.sizeOf60
  v70 := Tryd.zeroValue60
  t72 := Tryd.underlying62
  a72 := Tryd.isAgg62
  z72 := Tryd.sizeOf62
  v72 := Tryd.zeroValue62
  t75 := Tryd.underlying64
  a75 := Tryd.isAgg64
  z75 := Tryd.sizeOf64
  v75 := Tryd.zeroValue64
  t164 := Tryd.underlying98
  a164 := Tryd.isAgg98
  z164 := Tryd.sizeOf98
  v164 := Tryd.zeroValue98 }
set_option maxRecDepth 100000 in
theorem bLays169 : Go.Proofs.Lays.n169 Tryd.prog bRen := {
  mixed := by kernel_rfl
  f169 := Tryd.func30.trans (congrArg some (by kernel_rfl))
  t0 := Tryd.underlying0
  a0 := Tryd.isAgg0
  z0 := Tryd.sizeOf0
  v0 := Tryd.zeroValue0
  t3 := Tryd.underlying3
  a3 := Tryd.isAgg3
  z3 := Tryd.sizeOf3
  v3 := Tryd.zeroValue3
  t9 := Tryd.underlying9
  a9 := Tryd.isAgg9
  z9 := Tryd.sizeOf9
  v9 := Tryd.zeroValue9
  t37 := Tryd.underlying49
  a37 := Tryd.isAgg49
  z37 := Tryd.sizeOf49
  v37 := Tryd.zeroValue49
  t70 := Tryd.underlying60
  a70 := Tryd.isAgg60
  z70 := Tryd.sizeOf60
  v70 := Tryd.zeroValue60
  t72 := Tryd.underlying62
  a72 := Tryd.isAgg62
  z72 := Tryd.sizeOf62
  v72 := Tryd.zeroValue62
  t127 := Tryd.underlying87
  a127 := Tryd.isAgg87
  z127 := Tryd.sizeOf87
  v127 := Tryd.zeroValue87 }
theorem bX : Builder.Extra Tryd.prog bRen where
  sizeBuilder := by kernel_rfl
  liesBuilder := by kernel_rfl
  t5 := Tryd.underlying5
  a5 := Tryd.isAgg5
  z5 := Tryd.sizeOf5
  v5 := Tryd.zeroValue5
  infoByte := by kernel_rfl
  cellsByte := by kernel_rfl
  sizeByte := by kernel_rfl
  neB5 := by decide
/-- A Builder that holds some bytes. -/
def Bd (w : World) (B b : Nat) (l : Bs) : Prop := Lib.IsBuilder 62 5 B b (Lib.byteCells l) w
theorem wb_any (B b : Nat) (l : Bs) (c : UInt8) (w : World) (h : Bd w B b l) (hl : l.length ≤ 1000000) (hB : B ≤ w.heap.size) : Calls Tryd.prog 28 #[.pointer (some ⟨b, 0, none⟩), .int .u8 (c.toNat : Int)] w fun e w' => e = .returned .nilIface ∧ Bd w' B b (l ++ [c]) ∧ Below B w w' := by
  have hc : Calls Tryd.prog 28 #[.pointer (some ⟨b, 0, none⟩), .int .u8 (c.toNat : Int)] w fun e w' => e = .returned .nilIface ∧ (Lib.BuilderAt 62 5 B b (.pointer (some ⟨b, 0, none⟩)) (Lib.byteCells l ++ [.int .u8 (c.toNat : Int)]) w' ∧ Below B w w') := Any.Builder_WriteByte bLays167 bX B b (Lib.byteCells l) c.toNat w h (by rw [Lib.byteCells_length]; omega) hB
  refine hc.mono ?_
  rintro e w' ⟨he, h1, h2⟩
  refine ⟨he, .inr ?_, h2⟩
  rw [Lib.byteCells_append]
  exact h1
theorem ws_any (B b : Nat) (l : Bs) (s : ByteArray) (w : World) (h : Bd w B b l) (hl : l.length ≤ 1000000) (hs : s.size ≤ 1000000) (hB : B ≤ w.heap.size) : Calls Tryd.prog 29 #[.pointer (some ⟨b, 0, none⟩), .string s] w fun e w' => e = .returned (.tuple #[.int .i64 s.size, .nilIface]) ∧ Bd w' B b (l ++ s.toList) ∧ Below B w w' := by
  have hc : Calls Tryd.prog 29 #[.pointer (some ⟨b, 0, none⟩), .string s] w fun e w' => e = .returned (.tuple #[.int .i64 s.size, .nilIface]) ∧ (Lib.BuilderAt 62 5 B b (.pointer (some ⟨b, 0, none⟩)) (Lib.byteCells l ++ Lib.strCells s) w' ∧ Below B w w') := Any.Builder_WriteString bLays166 bX B b (Lib.byteCells l) s w h (by rw [Lib.byteCells_length]; omega) hB
  refine hc.mono ?_
  rintro e w' ⟨he, h1, h2⟩
  refine ⟨he, .inr ?_, h2⟩
  rw [Lib.byteCells_append, ByteArray.toList_eq]
  exact h1
theorem bs_any (B b : Nat) (l : Bs) (w : World) (h : Bd w B b l) (hB : B ≤ w.heap.size) : Calls Tryd.prog 30 #[.pointer (some ⟨b, 0, none⟩)] w fun e w' => e = .returned (.string (strB l)) ∧ Below B w w' :=
  Any.Builder_String_any bLays169 bX B b l w h hB
theorem Bd.fresh (w : World) : Bd (w.alloc (.cells #[.pointer none, .slice none 0 0] 62)) w.heap.size w.heap.size [] := Lib.fresh_isBuilder _ _ w
end Go.Proofs.YtmcmicgdkdbgjaaDoor
