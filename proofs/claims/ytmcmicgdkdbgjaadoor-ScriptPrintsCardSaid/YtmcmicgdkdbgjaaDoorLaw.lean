/- What every law's row wants besides its walk: the arguments read behind the call as before it, whatever their types; the result is true. Slices of integers among the arguments, opened. -/
import Derived.Test.YtmcmicgdkdbgjaaDoorMem
import Derived.ProofKit
import Derived.OpenShut
namespace Go.Proofs.YtmcmicgdkdbgjaaDoor
open Go.ChangeShapes Go.WideShapes Go.ChangeAt Go.RowKit

theorem own : ownKnob Tryd.prog.godebug = none := by kernel_rfl
theorem laidOut : laidOutB Tryd.prog = true := by kernel_rfl

section
variable {H : Type} {enc : TypeId × Value → H} {P : Program}

theorem trodAll_stays (hl : laidOutB P = true) {W W' : World} {sp' : Nat → Bool} :
    ∀ {ts : List TypeId} {vs : List Value} {ds : List (DataW H)} {ps : List MemPlace}, ts.all (fun t => P.readableRec t && decide (t < P.types.size)) = true →
      DataW.TrodAll enc P W 0 (fun _ => true) true ts vs ds ps → (∀ p ∈ ps, W.sameAt W' p) → (∀ p ∈ ps, sp' p.block = true) → DataW.TrodAll enc P W' 0 sp' true ts vs ds ps
  | [], _, _, _, _, h, _, _ => by
    obtain ⟨rfl, rfl, rfl⟩ := trodAll_nil h
    exact trodAll_mk0
  | _ :: _, _, _, _, hr, h, hs, hp => by
    obtain ⟨v, vs1, d, ds1, a, b, rfl, rfl, rfl, h1, h2⟩ := trodAll_cons h
    simp only [List.all_cons, Bool.and_eq_true, decide_eq_true_eq] at hr
    exact trodAll_cons_mk (WideElems.Trod_stays hl hr.1.1 hr.1.2 h1 (fun p hp' => hs p (List.mem_append.2 (.inl hp'))) (fun p hp' => hp p (List.mem_append.2 (.inl hp'))))
      (trodAll_stays hl hr.2 h2 (fun p hp' => hs p (List.mem_append.2 (.inr hp'))) (fun p hp' => hp p (List.mem_append.2 (.inr hp'))))

theorem law_post {f : Func} {s : ChangeSpec} {apart fresh handsOn : Bool} {W W' : World} {args : Array Value} {ds gs : List (DataW H)} {before : List MemPlace} {T : TypeId}
    (hl : laidOutB P = true) (hr : f.params.toList.all (fun t => P.readableRec t && decide (t < P.types.size)) = true)
    (hvars : s.vars = []) (hT : f.resultTypes = #[T]) (hTb : P.underlying T = some .bool)
    (hW : DataW.Whole enc P f.params.toList s.vars apart W args.toList ds gs before)
    (hspec : s.fn H (ds ++ gs) = { results := [.lit (.bool true)], args := ds }) (hb : Kept W W') :
    s.post enc P f apart fresh handsOn false W args (.bool true) W' := by
  have hlt : ∀ p ∈ before, p.block < W.heap.size := fun p hp => hW.lt p hp
  have hW0 := hW
  obtain ⟨p, q, hA, hV, hpq, hz, hn⟩ := hW
  have hq : q = [] := by
    rw [hvars] at hV
    exact (trodVars_none hV).2
  subst hq
  rw [List.append_nil] at hpq
  subst hpq
  refine ⟨ds, gs, before, [], before, [], hW0, ?_, ?_, ?_, World.keptBut_mono (fun p hp => ⟨hp, ?_⟩) (Below.frame hb (· ∈ before)), fun h => by cases h⟩
  · rw [hspec, hT]
    exact trodAll_mk1 (shut_bool hTb _)
  · rw [hspec]
    exact trodAll_stays hl hr hA (fun p hp => Below.same hb (hlt p hp)) (fun p hp => by simpa using hlt p hp)
  · rw [hspec, hvars]
    rfl
  · exact .inr (.inl hp)
end

section
variable {H : Type} {enc : TypeId × Value → H} {P : Program} {w : World} {base : Nat} {spare : Nat → Bool} {held : Bool}
/-- A slice of integers that came in. -/
theorem open_ints_sl {r : Reach} {b0 : Nat} {t e : TypeId} {k : IntKind} {v : Value} {d : DataW H} {ps : List MemPlace} (ht : P.underlying t = some (.slice e)) (he : P.underlying e = some (.int k)) (hc : P.cellsOf e = 1)
    (hval : Value.okWide P w r b0 t v) (hd : DataW.Trod enc P w base spare held t v d ps) :
    ∃ (A : Option Addr) (n c : Nat) (zs : List Int), v = .slice A n c ∧ Sl w 1 A n c (zs.map (Value.int k)) ∧ ∀ z ∈ zs, (Lit.int k z).wf = true := by
  obtain ⟨a0, len, cap, rfl⟩ := okWide_slice ht hval
  obtain ⟨fuel, hf⟩ := hd
  rcases open_ints ht he hc hf with ⟨hcs, _⟩ | ⟨a, len', cap', zs, hcs, _, hl, hm, hz, _, hcell, hwz⟩
  · simp [Value.cells] at hcs
    obtain ⟨rfl, rfl, rfl⟩ := hcs
    exact ⟨none, 0, 0, [], rfl, Sl.nil_, by simp⟩
  · simp [Value.cells] at hcs
    obtain ⟨rfl, rfl, rfl⟩ := hcs
    have hlz : len ≤ zs.length := by rw [hz]; split <;> omega
    refine ⟨_, len, cap, zs.take len, rfl, ⟨by simp; omega, hl, hm, fun hpos => ⟨a.block, a.off, ?_, fun j u hu => ?_⟩⟩, fun z hzz => hwz z (List.mem_of_mem_take hzz)⟩
    · have h0 := hcell 0 (by omega)
      have hs := cell_spot h0
      simp [Addr.add] at hs
      exact congrArg some hs
    have hadd : a.add j = ⟨a.block, a.off + j, none⟩ := by
      have h0 := hcell 0 (by omega)
      have hs := cell_spot h0
      simp only [Addr.add, if_true] at hs
      rw [hs, Addr.add_lit]
    rw [← hadd]
    rw [List.getElem?_map, List.getElem?_take] at hu
    by_cases hj : j < len
    · rw [if_pos hj] at hu
      have hj' : j < zs.length := by omega
      rw [hcell j hj', ← hu]
      simp [List.getD, hj']
    · rw [if_neg hj] at hu
      cases hu
end

end Go.Proofs.YtmcmicgdkdbgjaaDoor
