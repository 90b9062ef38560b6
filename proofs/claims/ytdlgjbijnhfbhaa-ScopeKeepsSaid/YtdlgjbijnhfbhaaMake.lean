/- 'make': a row of the call's own. No program in sight. -/
import Derived.Test.YtdlgjbijnhfbhaaApp
import Derived.Laws.MakeOwn
namespace Go.Proofs.Ytdlgjbijnhfbhaa
open Go.RowKit
section
variable {P : Program} {t e : TypeId} {size : Nat}
variable {ops : Array Oper} {rest : List Oper} {o : Oper} {a : Act} {Q : Exit → Act → World → Prop} {w : World}
theorem wpList_mk (W : World) (hgd : o.guard = none) (l c : Operand) (ho : o.op = .makeSlice t l c) (T : AppT P t e size) {n : Nat} (hl : a.eval l = .int .i64 0) (hc : a.eval c = .int .i64 (n : Int)) (hn : n ≤ 4294967296) (hk : Kept W w)
    (h : ∀ w', w'.ownsRow W.heap.size e size (.slice (some ⟨w.heap.size, 0, none⟩) 0 n) 0 [] → Kept W w' → wpList P ops Q rest (a.put o.dst (.slice (some ⟨w.heap.size, 0, none⟩) 0 n)) w') : wpList P ops Q (o :: rest) a w := by
  refine wpList_plain hgd fun K hK => ?_
  obtain ⟨i, z, hi, hz, hs, hby, hzs⟩ := T.info
  have hb : i.bytes * n ≤ 32768 * 4294967296 := Nat.mul_le_mul hby hn
  obtain ⟨w', hrun, h1, h2⟩ := run_make_own (P := P) w W.heap.size t e i z size T.under hi hz hs .i64 .i64 n (by omega) (by unfold maxLen; omega) hk.size
  unfold Oper.wp execOp
  simp only [ho, Sem.run_bind, Result.andThen_ok, hl, hc, hrun]
  exact hK _ _ (h w' h1 (hk.grown h2 (fun k hk' => by cases hk')))
end
end Go.Proofs.Ytdlgjbijnhfbhaa
