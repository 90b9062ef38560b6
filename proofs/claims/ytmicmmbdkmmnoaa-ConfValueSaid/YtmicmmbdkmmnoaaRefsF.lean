/- Layer 14: sign: walked. Layer 14: Put; the law's runes: walked. Layer 14: Put: walked. Layer 14: the law's few, same, awake; Lines: walked. The law RefsApart, walked. -/
import Derived.Test.YtmicmmbdkmmnoaaRefsL
import Derived.Lib.BufferKept
import Derived.Laws.RangeString
import Derived.Laws.RangeAny
import Derived.WalkSmall
import Derived.Laws.Cover4
namespace Go.Proofs.Ytmicmmbdkmmnoaa
open Go.RowKit
attribute [local go_sem ↓] Go.wp_at_zero Go.wp_at_succ

end Go.Proofs.Ytmicmmbdkmmnoaa
namespace Go.Proofs.Ytmicmmbdkmmnoaa
open Go.RowKit
attribute [local go_sem ↓] Go.wp_at_zero Go.wp_at_succ

theorem own_not_iter {w : World} {base : Nat} {e : TypeId} {size : Nat} {v : Value} {n : Nat} {xs : List Value} (h : w.ownsRow base e size v n xs) {k : Nat} {s : ByteArray} {p : Nat} (hit : w.heap[k]? = some (.stringIter s p)) : v.ownBlock ≠ some k := by
  obtain ⟨h1, h2⟩ := h
  rcases h2 with ⟨rfl, _⟩ | ⟨g, cap, cur, rfl, b, c, d⟩
  · intro e
    simp [Value.ownBlock] at e
  · intro e
    have : g = k := by simpa [Value.ownBlock] using e
    subst this
    rw [c] at hit
    cases hit
theorem own_iter {w : World} {base : Nat} {e : TypeId} {size : Nat} {v : Value} {n : Nat} {xs : List Value} (h : w.ownsRow base e size v n xs) {k : Nat} {s : ByteArray} {p : Nat} (hit : w.heap[k]? = some (.stringIter s p)) (p' : Nat) : (w.iterAt k s p').ownsRow base e size v n xs := by
  have hn := own_not_iter h hit
  obtain ⟨h1, h2⟩ := h
  refine ⟨h1, ?_⟩
  rcases h2 with h2 | ⟨g, cap, cur, rfl, b, c, d⟩
  · exact .inl h2
  · refine .inr ⟨g, cap, cur, rfl, b, ?_, d⟩
    rw [Lib.iterAt_other _ _ _ _ _ (fun e => hn (by simp [Value.ownBlock, e]))]
    exact c
theorem strI_snoc {s : ByteArray} {k : Nat} (h : k < s.size) : (strI s).take (k + 1) = (strI s).take k ++ [(s[k].toNat : Int)] := by
  rw [List.take_add_one, strI_get s k h]
  rfl
/-- All bytes below 128. -/
def Asc (s : ByteArray) : Prop := ∀ i (h : i < s.size), (s[i]'h).toNat < 128

end Go.Proofs.Ytmicmmbdkmmnoaa
namespace Go.Proofs.Ytmicmmbdkmmnoaa
open Go.RowKit
attribute [local go_sem ↓] Go.wp_at_zero Go.wp_at_succ

theorem asc_of {s : ByteArray} (h : s.data.toList.all (fun b => decide (b.toNat < 128)) = true) : Asc s := fun i hi => by
  have hm : s[i] ∈ s.data.toList := Array.getElem_mem_toList (xs := s.data) hi
  simpa using List.all_eq_true.1 h _ hm
theorem signs_asc {p : List Int × Int} (hp : p ∈ signs) : Asc (strOfNums p.1) ∧ strI (strOfNums p.1) = p.1 ∧ (strOfNums p.1).size = p.1.length ∧ p.1.length ≤ 6 ∧ ((strOfNums p.1).toList == []) = false := by
  rw [ByteArray.toList_eq]
  simp only [signs, List.mem_cons, List.not_mem_nil, or_false] at hp
  rcases hp with rfl | rfl | rfl | rfl | rfl | rfl | rfl | rfl
  all_goals
    exact ⟨asc_of (by decide +kernel), by decide +kernel, by decide +kernel, by decide +kernel, by decide +kernel⟩
end Go.Proofs.Ytmicmmbdkmmnoaa
namespace Go.Proofs.Ytmicmmbdkmmnoaa
open Go.RowKit
attribute [local go_sem ↓] Go.wp_at_zero Go.wp_at_succ

theorem elem_pc {w : World} {n c k : Nat} {A : Option Addr} {P : List (Pc × Nat)} (h : Sl w 5 A n c (P.flatMap pcE)) (hk : k < n) :
    ∃ b o p, A = some ⟨b, o, none⟩ ∧ P[k]? = some p ∧ w.cell? ⟨b, o + k * 5, none⟩ = some (.int .i64 p.1.kind) ∧ w.cell? ⟨b, o + k * 5 + 1, none⟩ = some (.int .i64 p.2) ∧ w.cell? ⟨b, o + k * 5 + 2, none⟩ = some (.int .i64 ((p.2 : Int) + p.1.len)) ∧ w.cell? ⟨b, o + k * 5 + 3, none⟩ = some (.int .i32 p.1.r) ∧ w.cell? ⟨b, o + k * 5 + 4, none⟩ = some (.string p.1.name) ∧ b < w.heap.size := by
  obtain ⟨b, o, p, hA, hp, hc, hb⟩ := h.elemb (s := 5) (k := k) (fun _ => rfl) (by omega) hk
  exact ⟨b, o, p, hA, hp, hc 0 _ rfl, hc 1 _ rfl, hc 2 _ rfl, hc 3 _ rfl, hc 4 _ rfl, hb⟩
def egA : List Int := [97, 38, 108, 116, 59, 38, 35, 54, 53, 59, 38, 120]
theorem egA_len : (pcsX egA 0).length = 5 := by decide +kernel
theorem egA_kinds : (pcsX egA 0).map (fun p => p.1.kind) = [1, 3, 2, 4, 1] := by decide +kernel
theorem egA_runes : (pcsX egA 0).map (fun p => p.1.r) = [0, 0, 65, 0, 0] := by decide +kernel
theorem egA_names : (pcsX egA 0).map (fun p => p.1.name.data.toList) = [[], [108, 116], [], [], []] := by decide +kernel
theorem egB_put : putF [97, 60, 98] 0 0 = [97, 38, 108, 116, 59, 98] := by decide +kernel
theorem load_runes {P : Program} {w : World} {A : Option Addr} {n c : Nat} {l : List Int} (h : Sl w 1 A n c (l.map (Value.int .i32))) (hn : 0 < n) : ∃ a, A = some a ∧ (loadCells a n).run P w = .ok (l.map (Value.int .i32)).toArray w := by
  obtain ⟨b, o, rfl, hc⟩ := h.at_ hn
  refine ⟨_, rfl, ?_⟩
  have hl : (l.map (Value.int .i32)).length = n := by simpa using h.len
  rw [← hl]
  exact run_loadCells_list w _ _ (fun j u hj => by rw [Addr.add_lit]; exact hc j u hj)
end Go.Proofs.Ytmicmmbdkmmnoaa
namespace Go.Proofs.Ytmicmmbdkmmnoaa
open Go.RowKit
attribute [local go_sem ↓] Go.wp_at_zero Go.wp_at_succ

theorem sign_len (l : List Int) (i : Nat) (q : Int) : (outF l i q).length ≤ 6 := by
  unfold outF
  split
  · simp
  · rcases sign_in l i q with ⟨h, _⟩ | h
    · rw [h]
      simp
    · generalize signF l i q = sg at h
      simp only [signs, List.mem_cons, List.not_mem_nil, or_false, Prod.mk.injEq] at h
      rcases h with ⟨rfl, _⟩ | ⟨rfl, _⟩ | ⟨rfl, _⟩ | ⟨rfl, _⟩ | ⟨rfl, _⟩ | ⟨rfl, _⟩ | ⟨rfl, _⟩ | ⟨rfl, _⟩ <;> simp
theorem put_len (l : List Int) (q : Int) : ∀ (f i : Nat), l.length ≤ f + i → (putF l q i).length ≤ 6 * f
  | 0, i, h => by rw [putF_end (by omega)]; simp
  | f + 1, i, h => by
    by_cases hi : i < l.length
    · have := put_len l q f (i + 1) (by omega)
      have := sign_len l i q
      rw [putF_step hi, List.length_append]
      omega
    · rw [putF_end hi]
      simp
theorem pos_kinds : ∀ (ps : List Pc) (a : Nat), (∀ p ∈ ps, p.kind ≠ 4) → ∀ x ∈ posL a ps, x.1.kind ≠ 4
  | [], _, _, x, hx => by cases hx
  | p :: ps, a, h, x, hx => by
    rw [posL] at hx
    rcases List.mem_cons.1 hx with rfl | hx
    · exact h p (by simp)
    · exact pos_kinds ps _ (fun y hy => h y (by simp [hy])) x hx
theorem pos_len : ∀ (ps : List Pc) (a : Nat), (posL a ps).length = ps.length
  | [], _ => rfl
  | p :: ps, a => by rw [posL, List.length_cons, List.length_cons, pos_len]
theorem pcsG_len : ∀ (f : Nat) (s : List Int), (pcsG f s).length ≤ f
  | 0, _ => Nat.le_refl _
  | f + 1, s => by
    rw [pcsG]
    split
    · simp
    · simpa using pcsG_len f _
theorem put_pieces (l : List Int) (q : Int) : ∀ x ∈ pcsX (putF l q 0) 0, x.1.kind ≠ 4 := by
  have hm := put_means l q l.length 0 (by omega) (by omega)
  unfold pcsX
  rw [List.drop_zero]
  exact pos_kinds _ _ (plainly_kinds _ _ _ (Nat.le_refl _) hm)
end Go.Proofs.Ytmicmmbdkmmnoaa
