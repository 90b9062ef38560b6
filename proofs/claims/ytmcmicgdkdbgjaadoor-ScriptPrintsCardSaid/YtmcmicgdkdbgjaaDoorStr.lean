/- Bytes and strings: a slice of bytes read as a string; a constant's bytes. No program in sight. -/
import Derived.Test.YtmcmicgdkdbgjaaDoorApp
import Derived.Lib.SmallJoins
import Derived.Laws.BytesArg
namespace Go.Proofs.YtmcmicgdkdbgjaaDoor
open Go.RowKit

section
variable {P : Program} {w : World} {A : Option Addr} {n c : Nat} {l : List Int}
theorem run_str {src dst e : TypeId} (hs : P.underlying src = some (.slice e)) (he : P.underlying e = some (.int .u8)) (hd : P.underlying dst = some .string) (h : Sl w 1 A n c (l.map (Value.int .u8))) :
    (convert src dst (.slice A n c)).run P w = .ok (.string (strOfNums l)) w := by
  have hl := h.llen1
  rcases Nat.eq_zero_or_pos n with h0 | h0
  · subst h0
    have : l = [] := List.eq_nil_of_length_eq_zero hl
    subst this
    cases A with
    | none => exact run_convert_bytes_nil w src e hs he 0 c dst hd
    | some a =>
      rw [run_convert_bytes_string w src dst e _ 0 c hs he hd, run_bytesToString w _ 0 c [] (run_loadCells_list (P := P) w a [] (by simp))]
      rfl
  · obtain ⟨b, o, rfl, hc⟩ := h.at_ h0
    refine run_convert_bytes_arg w src e hs he b o n c l hl (fun i hi => ?_) dst hd
    refine hc i _ ?_
    rw [List.getElem?_map, List.getElem?_eq_getElem (by omega)]
    simp [List.getD, List.getElem?_eq_getElem (show i < l.length by omega)]
end
theorem run_str_q {P : Program} {w : World} {A : Option Addr} {n c : Nat} {l : List Int} {src dst e : TypeId} (hs : P.underlying src = some (.slice e)) (he : P.underlying e = some (.int .u8)) (hd : P.underlying dst = some .string) (h : Sl w 1 A n c (l.map (Value.int .u8))) (s : ByteArray) (hl : strOfNums l = s) :
    ∀ q, (convert src dst (.slice A n c)).run P (w.drewN q) = .ok (.string s) (w.drewN q) := fun q => hl ▸ run_str hs he hd (w := w.drewN q) h
theorem strOfNums_append (a b : List Int) : strOfNums (a ++ b) = strOfNums a ++ strOfNums b := by
  unfold strOfNums
  rw [ByteArray.mk_append_mk]
  simp
theorem strOfNums_append3 (a b c : List Int) : strOfNums (a ++ (b ++ c)) = strOfNums a ++ strOfNums b ++ strOfNums c := by
  rw [← List.append_assoc, strOfNums_append, strOfNums_append]
theorem Sl.litz {w : World} {t : TypeId} {cs : List Value} {n s g : Nat} {fr : Nat × Nat} (hg : g = w.heap.size) (hl : cs.length = n * s) (hm : n ≤ 9223372036854775807) : Sl (w.alloc (.cells cs.toArray t fr)) s (some ⟨g, 0, none⟩) n n cs :=
  ⟨hl, Nat.le_refl _, by simpa [maxLen] using hm, fun _ => ⟨g, 0, rfl, fun j u hu => by
    subst hg
    rw [cell_of_row _ _ _ cs.toArray t fr (heap_alloc_new w _)]
    simpa using hu⟩⟩
end Go.Proofs.YtmcmicgdkdbgjaaDoor
