/- tag.Read, walked: where the parts open no tag. -/
import Derived.Test.YtbebmmohambngaaTagN
import Derived.Test.YtbebmmohambngaaTagQ
namespace Go.Proofs.Ytbebmmohambngaa
open Go.RowKit
attribute [local go_sem ↓] Go.wp_at_zero Go.wp_at_succ

theorem Sl.lt {w : World} {s n c : Nat} {A : Option Addr} {xs : List Value} (h : Sl w s A n c xs) (hs : 0 < s) (hn : 0 < n) : ∀ b o, A = some ⟨b, o, none⟩ → b < w.heap.size := by
  intro b o e
  obtain ⟨b', o', rfl, hc⟩ := h.at_ hn
  injection e with e
  injection e with e1 e2
  subst e1 e2
  have hl := h.len
  have h0 : 0 < xs.length := by rw [hl]; exact Nat.mul_pos hn hs
  have := hc 0 xs[0] (List.getElem?_eq_getElem h0)
  exact World.block_lt_of_cell? w _ this

/-- A block that is known whole. -/
def Blk (w : World) (b : Nat) (cs : Array Value) (t : TypeId) : Prop := w.heap[b]? = some (.cells cs t (0, 0))
section
variable {w w' : World} {b g : Nat} {cs : Array Value} {t : TypeId}
theorem Blk.lt (h : Blk w b cs t) : b < w.heap.size := by
  rcases Nat.lt_or_ge b w.heap.size with hlt | hge
  · exact hlt
  · unfold Blk at h
    rw [Array.getElem?_eq_none hge] at h
    cases h
theorem Blk.cell (h : Blk w b cs t) : ∀ i, w.cell? ⟨b, i, none⟩ = cs[i]? := fun i => cell_of_row w b i cs t (0, 0) h
theorem Blk.frozen (h : Blk w b cs t) : ∀ i, w.frozen? ⟨b, i, none⟩ = false := fun i => by
  unfold Blk at h
  simp [World.frozen?, h]
theorem Blk.kept (h : Blk w b cs t) (k : Kept w w') : Blk w' b cs t := (Below.block k b h.lt).trans h
theorem Blk.only (h : Blk w b cs t) (k : Only g w w') (hne : b ≠ g) : Blk w' b cs t := (k.block b h.lt (fun e => hne (by injection e))).trans h
theorem Blk.alloc (h : Blk w b cs t) (o : Obj) : Blk (w.alloc o) b cs t := (Below.heap_alloc w o b h.lt).trans h
theorem Blk.new (w : World) (cs : Array Value) (t : TypeId) : Blk (w.alloc (.cells cs t)) w.heap.size cs t := heap_alloc_new w _
end

set_option maxHeartbeats 2000000 in
theorem read_none (A : Option Addr) (n c : Nat) (l : List Int) (f t : Int) (w : World) (h : Sl w 1 A n c (l.map (Value.int .i32))) (hn : n ≤ 1000000) (hlen : (partsL l f t).length ≤ 1000000) (ht : takeF [1, 2] (partsL l f t) = false) :
    Calls Try.prog 11 #[.slice A n c, .int .i64 f, .int .i64 t] w fun e w' => e = .returned (.agg #[.int .i64 0, .int .i64 0, .int .i64 0, .slice none 0 0, .bool false, .bool false]) ∧ Kept w w' := by
  have heq := fun (w : World) (a : Option Addr) (n c : Nat) => Lib.run_eql_slice_nil (P := Try.prog) w 24 30 a n c 0 0 Try.underlying24
  go_enter Try.func11, Try.ntmps11
  go_wp2_with fail
  refine (parts_any _ _ _ l f t _ (h.kept ?_) hn).mono ?_
  · repeat (first | exact Kept.refl _ | refine Kept.alloc ?_ _)
  rintro e w1 ⟨A', c', rfl, hP, hk1, hPo⟩
  have B6 : Blk w1 w.heap.size #[.int .i64 0, .int .i64 0, .int .i64 0, .slice none 0 0, .bool false, .bool false] 36 := ((Blk.new w _ _).alloc _).kept hk1
  have B7 : Blk w1 (w.heap.size + 1) #[.int .i64 0, .int .i64 0, .int .i64 0, .slice none 0 0, .bool false, .bool false] 36 := by
    have := (Blk.new (w.alloc (.cells #[.int .i64 0, .int .i64 0, .int .i64 0, .slice none 0 0, .bool false, .bool false] 36)) #[.int .i64 0, .int .i64 0, .int .i64 0, .slice none 0 0, .bool false, .bool false] 36).kept hk1
    simpa using this
  obtain ⟨N, hN⟩ : ∃ N, N = (partsL l f t).length := ⟨_, rfl⟩
  rw [← hN] at hP hlen hPo ⊢
  clear hN
  go_wp2_with fail
  have hR : RD ((w1.alloc (.cells #[.slice A' N c', .int .i64 0] 52)).alloc (.cells #[.int .i64 1, .int .i64 2] 3)) w1.heap.size A' N c' (partsL l f t) 0 :=
    ⟨by simp [go_sem], by simp [go_sem], by simp [go_sem], hP.kept (((Kept.refl _).alloc _).alloc _), fun hn => hP.lt (by omega) hn, Nat.zero_le _, hlen⟩
  refine (takesR_no hR _ 2 _ [1, 2] ?_ ht).mono ?_
  · exact Sl.litg (by simp) rfl (by omega)
  rintro e w2 ⟨rfl, hR2, hO2⟩
  have l6 := B6.lt
  have l7 := B7.lt
  have C6 := ((B6.alloc _).alloc _).only hO2 (Nat.ne_of_lt l6)
  have C7 := ((B7.alloc _).alloc _).only hO2 (Nat.ne_of_lt l7)
  have HK : Kept w w2 := hO2.kept ((((Kept.refl _).alloc _ |>.alloc _).trans hk1).alloc _ |>.alloc _) (by omega)
  have f6 := C6.cell
  have f7 := C7.cell
  have g6 := C6.frozen
  go_wp2_with fail
  refine bodyPost_ret (v := .agg #[.int .i64 0, .int .i64 0, .int .i64 0, .slice none 0 0, .bool false, .bool false]) ?_ rfl ⟨rfl, by repeat (first | (with_reducible exact HK) | (with_reducible refine Kept.setCell ?_ (Nat.le_refl _) _))⟩
  simp [results, Try.results11, go_sem, f6]
end Go.Proofs.Ytbebmmohambngaa
