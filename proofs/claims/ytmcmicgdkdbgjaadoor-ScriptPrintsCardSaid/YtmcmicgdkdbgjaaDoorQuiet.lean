/- Regions that draw their order, whose operations read and whose calls keep all that was there: walked once, in the text's order. No program in sight. -/
import Derived.Test.YtmcmicgdkdbgjaaDoorApp
namespace Go.Proofs.YtmcmicgdkdbgjaaDoor
open Go.RowKit

/-- A world behind w, in which nothing of w has turned. -/
structure KeptFrom (w : World) where
  x : World
  k : Kept w x
instance (w : World) : Inhabited (KeptFrom w) := ⟨⟨w, Kept.refl w⟩⟩
theorem wp_region_kept {P : Program} {id : Nat} {Q : Exit → Act → World → Prop} {a : Act} {w : World} {l : List Oper} (hm : P.follows .mixedOrders = true) (hB : Region.lexB .any l.toArray = true)
    (h : wpQuiet P l.toArray (fun x => ∃ p : KeptFrom w, x = p.x) (fun a' => ∀ x, (∃ p : KeptFrom w, x = p.x) → Q .normal a' x) l a) : (Code.region id l.toArray true).wp P Q a w :=
  wp_region_quiet (C := fun x => ∃ p : KeptFrom w, x = p.x) hm hB ⟨⟨w.drew, (Kept.refl w).drew⟩, rfl⟩ (by simpa using h)
/-- A callee's contract, met in such a world. -/
theorem Calls.kept_of {P : Program} {f : FuncId} {args : Array Value} {w : World} {p : KeptFrom w} {v : Value}
    (h : Calls P f args p.x fun e w' => e = .returned v ∧ Kept p.x w') : Calls P f args p.x fun e x => e = .returned v ∧ ∃ q : KeptFrom w, x = q.x :=
  h.mono fun _ w' ⟨he, hk⟩ => ⟨he, ⟨w', p.k.trans hk⟩, rfl⟩
theorem grown_cell {w w' : World} {row : Option Nat} (h : w.grownBy w' row) {p : Addr} {v : Value} (hc : w.cell? p = some v) (hne : some p.block ≠ row) : w'.cell? p = some v :=
  (World.cell?_of_block (World.grownBy.block h p.block (World.block_lt_of_cell? w p hc) hne)).trans hc
theorem Sl.grown {w w' : World} {row : Option Nat} {s n c : Nat} {A : Option Addr} {xs : List Value} (h : Sl w s A n c xs) (hg : w.grownBy w' row) (hne : ∀ b o, A = some ⟨b, o, none⟩ → some b ≠ row) : Sl w' s A n c xs :=
  ⟨h.1, h.2.1, h.2.2.1, fun hn => by
    obtain ⟨b, o, e, hc⟩ := h.2.2.2 hn
    exact ⟨b, o, e, fun j u hu => grown_cell hg (hc j u hu) (hne b o e)⟩⟩
/-- 'v = append(v, x...)' inside a region that draws its order. -/
theorem step_app {P : Program} {t e : TypeId} {size : Nat} {ops : Array Oper} {o : Oper} {a : Act} {w : World} {K : Act → World → Prop} {Q : Exit → Act → World → Prop} {E : Prop} (W : World) (hgd : o.guard = none) (s x : Operand)
    (ho : o.op = .call { callee := .builtin .append, args := #[s, x], argTypes := #[t, t] }) (T : AppT P t e size)
    {v : Value} {n : Nat} {xs : List Value} (hs : a.eval s = v) (hown : w.ownsRow W.heap.size e size v n xs) (hk : Kept W w)
    {A : Option Addr} {m c : Nat} {news : List Value} (hx : a.eval x = .slice A m c) (hr : Sl w size A m c news) (hc : news.all (fun u => u.oneCell') = true ∧ n + m ≤ 4294967296)
    (h : ∀ v' w', w'.ownsRow W.heap.size e size v' (n + m) (xs ++ news) → Kept W w' → w.grownBy w' v.ownBlock → (v'.ownBlock = v.ownBlock ∨ v'.ownBlock = some w.heap.size) → K (a.put o.dst v') w') :
    if Region.wanted o (yielded ops a.tmps) = true then Oper.wp P o a w K Q else E := by
  have hw : Region.wanted o (yielded ops a.tmps) = true := by simp [Region.wanted, hgd]
  rw [if_pos hw]
  obtain ⟨v', w', hrun, h2, h3, h4⟩ := run_app T o.type hown hr hc.1 hc.2 hk.size
  unfold Oper.wp execOp
  simp only [ho, resolve, invoke, builtin, Sem.run_bind, Sem.run_pure, Result.andThen_ok, List.map_toArray, List.map_cons, List.map_nil, hs, hx, hrun]
  exact h v' w' h2 (hk.grown h3 fun k hk' => (hown.lt k hk').1) h3 h4
end Go.Proofs.YtmcmicgdkdbgjaaDoor
