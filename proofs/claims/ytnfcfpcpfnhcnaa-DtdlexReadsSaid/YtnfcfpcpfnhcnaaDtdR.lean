/- Layer 9: the law's runes: walked (as layer 14's). -/
import Derived.Test.YtnfcfpcpfnhcnaaDtdP
import Derived.Test.YtnfcfpcpfnhcnaaScanW
import Derived.Lib.BufferKept
import Derived.Laws.RangeString
import Derived.Laws.RangeAny
import Derived.WalkSmall
namespace Go.Proofs.Ytnfcfpcpfnhcnaa
open Go.RowKit
attribute [local go_sem ↓] Go.wp_at_zero Go.wp_at_succ

theorem own_not_iter {w : World} {base : Nat} {e : TypeId} {size : Nat} {v : Value} {n : Nat} {xs : List Value} (h : w.ownsRow base e size v n xs) {k : Nat} {s : ByteArray} {p : Nat} (hit : w.heap[k]? = some (.stringIter s p)) : v.ownBlock ≠ some k := by
  obtain ⟨h1, h2⟩ := h
  rcases h2 with ⟨rfl, _⟩ | ⟨g, cap, cur, rfl, b, c, d⟩
  · intro e
    simp [Value.ownBlock] at e
  · intro e
    have : g = k := by simpa [Value.ownBlock] using e
    subst this
    rw [c] at hit
    cases hit
theorem own_iter {w : World} {base : Nat} {e : TypeId} {size : Nat} {v : Value} {n : Nat} {xs : List Value} (h : w.ownsRow base e size v n xs) {k : Nat} {s : ByteArray} {p : Nat} (hit : w.heap[k]? = some (.stringIter s p)) (p' : Nat) : (w.iterAt k s p').ownsRow base e size v n xs := by
  have hn := own_not_iter h hit
  obtain ⟨h1, h2⟩ := h
  refine ⟨h1, ?_⟩
  rcases h2 with h2 | ⟨g, cap, cur, rfl, b, c, d⟩
  · exact .inl h2
  · refine .inr ⟨g, cap, cur, rfl, b, ?_, d⟩
    rw [Lib.iterAt_other _ _ _ _ _ (fun e => hn (by simp [Value.ownBlock, e]))]
    exact c
theorem strI_snoc {s : ByteArray} {k : Nat} (h : k < s.size) : (strI s).take (k + 1) = (strI s).take k ++ [(s[k].toNat : Int)] := by
  rw [List.take_add_one, strI_get s k h]
  rfl
/-- All bytes below 128. -/
def Asc (s : ByteArray) : Prop := ∀ i (h : i < s.size), (s[i]'h).toNat < 128

theorem asc_of {s : ByteArray} (h : s.data.toList.all (fun b => decide (b.toNat < 128)) = true) : Asc s := fun i hi => by
  have hm : s[i] ∈ s.data.toList := Array.getElem_mem_toList (xs := s.data) hi
  simpa using List.all_eq_true.1 h _ hm
set_option maxHeartbeats 2000000 in
theorem lrunes_any (S : ByteArray) (w : World) (hasc : Asc S) (hsz : S.size ≤ 1000) :
    Calls Try.prog 28 #[.string S] w fun e w' => ∃ VA VC, e = .returned (.slice VA S.size VC) ∧ Sl w' 1 VA S.size VC ((strI S).map (Value.int .i32)) ∧ Kept w w' := by
  have HASC := Lib.hid hasc
  clear hasc
  have hk0 := Kept.refl w
  have hown0 : w.ownsRow w.heap.size 21 1 (.slice none 0 0) 0 (([] : List Int).map (Value.int .i32)) := World.ownsRow_nil _ _ _ _
  have hu := Try.underlying9
  go_enter Try.func28, Try.ntmps28
  go_wp2_with fail
  go_loopw [3] (fun v wr => ∃ (pos : Nat) (UA : Option Addr) (UC : Nat), pos ≤ S.size ∧ v = .slice UA (([] : List Int).length + pos) UC ∧ wr.heap[w.heap.size]? = some (.stringIter S pos) ∧ wr.ownsRow w.heap.size 21 1 (.slice UA (([] : List Int).length + pos) UC) (([] : List Int).length + pos) ((([] : List Int) ++ (strI S).take pos).map (Value.int .i32)) ∧ Kept w wr)
    (fun _ wr => S.size - wr.iterPos w.heap.size)
  case atStart =>
    exact ⟨0, none, 0, Nat.zero_le _, by first | rfl | simp, World.iter_heap w S 0, by show (World.alloc w (.stringIter S 0)).ownsRow _ _ _ _ _ _; simpa using hown0.alloc (.stringIter S 0), hk0.alloc _⟩
  case round =>
    obtain ⟨pos, UA, UC, hps, rfl, hit, hown, hkq⟩ := hrel
    by_cases hp : pos < S.size
    · have h128 := HASC.out pos hp
      have hnext : ∀ ty, (Instr.next (.pointer (some ⟨w.heap.size, 0, none⟩)) true ty).run Try.prog wr = _ := fun ty => Lib.run_next_ascii_at wr w.heap.size S pos ty hit hp h128
      have hkI := Lib.iterAt_heap wr w.heap.size S pos (pos + 1) hit
      have hownI := own_iter hown hit (pos + 1)
      have hW0 := hk0.size
      have hkp : Kept w (wr.iterAt w.heap.size S (pos + 1)) := Lib.below_iterAt hkq hW0 S (pos + 1)
      have hmu : wr.iterPos w.heap.size = pos := iterPos_of hit
      have hsn := Lib.hid (strI_snoc hp)
      generalize wr.iterAt w.heap.size S (pos + 1) = W1 at hnext hownI hkI hkp
      have hW := hkp.size
      have hni := own_not_iter hownI hkI
      clear hown hit
      go_wp2_with (at_builtin; refine wpList_app (by rfl) _ _ (by rfl) appT_runes (by rfl) (hownI.alloc _) (by rfl) (Sl.litg (by rfl) ?_ (by omega)) ?_ ?_ ?_ ?_; (exact rfl); (exact rfl); (simp; omega); (simp; omega); (intro v' w' hown' hgr hob; obtain ⟨VA', VC', rfl, hVs⟩ := own_sl hown'))
      have hlt1 : w.heap.size < W1.heap.size := (Array.getElem?_eq_some_iff.1 hkI).1
      have hit2 : w'.heap[w.heap.size]? = some (.stringIter S (pos + 1)) :=
        ((World.grownBy.block hgr w.heap.size (by simp; omega) (fun e => hni e.symm)).trans (Below.heap_alloc W1 _ _ hlt1)).trans hkI
      have hk2 : Kept w w' := (hkp.alloc _).grown hgr (fun k e => by have := hownI.lt k e; omega)
      clear hownI hgr hob hVs hnext hkp hkI hni
      go_roundw
      case rel => exact ⟨pos + 1, VA', VC', hp, by first | rfl | simp, hit2, by rw [hsn.out, ← List.append_assoc, List.map_append]; first | exact hown' | simpa using hown', hk2⟩
      case measure =>
        rw [hmu, iterPos_of hit2]
        omega
    · have hpe : pos = S.size := by omega
      have hnext : ∀ ty, (Instr.next (.pointer (some ⟨w.heap.size, 0, none⟩)) true ty).run Try.prog wr = _ := fun ty => Lib.run_next_end_at wr w.heap.size S pos ty hit hp
      rw [hpe, List.take_of_length_le (by rw [strI_len]; omega)] at hown
      clear hit
      subst hpe
      obtain ⟨A2, c2, hVe, hV⟩ := own_sl hown
      injection hVe with e1 e2 e3
      subst e1 e3
      simp only [List.length_nil, Nat.zero_add, List.nil_append] at hV
      go_wp2_with fail
      go_ret
      exact ⟨UA, UC, by simp, hV, hkq⟩
end Go.Proofs.Ytnfcfpcpfnhcnaa
