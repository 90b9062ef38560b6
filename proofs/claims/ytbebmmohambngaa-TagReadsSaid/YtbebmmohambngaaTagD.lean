/- tag.Read at any runes; the example of chapter 8. -/
import Derived.Test.YtbebmmohambngaaTagS2
import Derived.Lib.BufferKept
import Derived.Laws.RangeString
import Derived.WalkSmall
namespace Go.Proofs.Ytbebmmohambngaa
open Go.RowKit

theorem chain_len : ∀ (P : List Prt) (a b : Int), Chain a P b → a + P.length ≤ b
  | [], a, b, h => by simp [Chain] at h; simp; omega
  | q :: P, a, b, h => by
    obtain ⟨h1, h2, _, _, h5⟩ := h
    have := chain_len P q.t b h5
    simp only [List.length_cons]
    omega
theorem partsL_len (l : List Int) (f t : Int) : (partsL l f t).length ≤ l.length := by
  by_cases h : f < 0 ∨ t < f ∨ (l.length : Int) < t
  · unfold partsL
    rw [if_pos h]
    exact Nat.zero_le _
  · have := chain_len _ _ _ (partsL_chain h)
    omega
theorem elem_prt {w : World} {n c k : Nat} {A : Option Addr} {P : List Prt} (h : Sl w 3 A n c (P.flatMap prtC)) (hk : k < n) :
    ∃ b o p, A = some ⟨b, o, none⟩ ∧ P[k]? = some p ∧ w.cell? ⟨b, o + k * 3, none⟩ = some (.int .i64 p.k) ∧ w.cell? ⟨b, o + k * 3 + 1, none⟩ = some (.int .i64 p.f) ∧ w.cell? ⟨b, o + k * 3 + 2, none⟩ = some (.int .i64 p.t) ∧ b < w.heap.size := by
  obtain ⟨b, o, p, hA, hp, hc, hb⟩ := h.elemb (s := 3) (k := k) (fun _ => rfl) (by omega) hk
  exact ⟨b, o, p, hA, hp, hc 0 _ rfl, hc 1 _ rfl, hc 2 _ rfl, hb⟩

theorem elem_atr {w : World} {n c k : Nat} {A : Option Addr} {P : List Atr} (h : Sl w 9 A n c (P.flatMap atrC)) (hk : k < n) :
    ∃ b o p, A = some ⟨b, o, none⟩ ∧ P[k]? = some p ∧ (w.cell? ⟨b, o + k * 9, none⟩ = some (.int .i64 p.name.k) ∧ w.cell? ⟨b, o + k * 9 + 1, none⟩ = some (.int .i64 p.name.f) ∧ w.cell? ⟨b, o + k * 9 + 2, none⟩ = some (.int .i64 p.name.t) ∧
      w.cell? ⟨b, o + k * 9 + 3, none⟩ = some (.int .i64 p.value.k) ∧ w.cell? ⟨b, o + k * 9 + 4, none⟩ = some (.int .i64 p.value.f) ∧ w.cell? ⟨b, o + k * 9 + 5, none⟩ = some (.int .i64 p.value.t) ∧
      w.cell? ⟨b, o + k * 9 + 6, none⟩ = some (.int .i64 p.all.k) ∧ w.cell? ⟨b, o + k * 9 + 7, none⟩ = some (.int .i64 p.all.f) ∧ w.cell? ⟨b, o + k * 9 + 8, none⟩ = some (.int .i64 p.all.t)) ∧ b < w.heap.size := by
  obtain ⟨b, o, p, hA, hp, hc, hb⟩ := h.elemb (s := 9) (k := k) (fun _ => rfl) (by omega) hk
  exact ⟨b, o, p, hA, hp, ⟨hc 0 _ rfl, hc 1 _ rfl, hc 2 _ rfl, hc 3 _ rfl, hc 4 _ rfl, hc 5 _ rfl, hc 6 _ rfl, hc 7 _ rfl, hc 8 _ rfl⟩, hb⟩

theorem read_any (A : Option Addr) (n c : Nat) (l : List Int) (f t : Int) (w : World) (h : Sl w 1 A n c (l.map (Value.int .i32))) (hn : n ≤ 1000000) :
    Calls Try.prog 11 #[.slice A n c, .int .i64 f, .int .i64 t] w fun e w' => TagOf (readF (partsL l f t)) e w w' := by
  have hlen : (partsL l f t).length ≤ 1000000 := by
    have := partsL_len l f t
    have := h.llen1
    omega
  cases ht : takeF [1, 2] (partsL l f t)
  · refine (read_none A n c l f t w h hn hlen ht).mono ?_
    rintro e w' ⟨rfl, hk⟩
    have hF : readF (partsL l f t) = ⟨noPrt, [], false, false⟩ := by
      unfold readF
      rw [ht]
      rfl
    rw [hF]
    exact ⟨none, 0, rfl, Sl.nil_, hk⟩
  · exact read_some A n c l f t w h hn hlen ht

theorem take_snoc {s : ByteArray} {k : Nat} (h : k < s.size) : (s.data.toList.take (k + 1)).map (fun (b : UInt8) => Value.int .i32 (b.toNat : Int)) = (s.data.toList.take k).map (fun (b : UInt8) => Value.int .i32 (b.toNat : Int)) ++ [.int .i32 ((s[k]'h).toNat : Int)] := by
  have hl : k < s.data.toList.length := by rw [Array.length_toList]; exact h
  rw [List.take_add_one, List.getElem?_eq_getElem hl, List.map_append]
  rfl
def eg : ByteArray := ⟨#[60, 97, 32, 98, 61, 39, 99, 39, 47, 62]⟩
def egL : List Int := [60, 97, 32, 98, 61, 39, 99, 39, 47, 62]
theorem eg_cells : eg.data.toList.map (fun (b : UInt8) => Value.int .i32 (b.toNat : Int)) = egL.map (Value.int .i32) := by rfl
theorem eg_ascii : ∀ i (h : i < eg.size), (eg[i]'h).toNat < 128 := by
  intro i h
  have : ∀ b ∈ eg.data.toList, b.toNat < 128 := by decide
  exact this (eg.data[i]'h) (Array.mem_toList_iff.2 (Array.getElem_mem _))
theorem eg_size : eg.size = 10 := rfl
theorem eg_parts : (partsL egL 0 10).length = 7 := by decide
theorem eg_read : readF (partsL egL 0 10) = ⟨⟨2, 1, 2⟩, [⟨⟨2, 3, 4⟩, ⟨5, 5, 8⟩, ⟨7, 2, 8⟩⟩], true, true⟩ := by rfl

set_option maxHeartbeats 4000000 in
theorem awake_any (w : World) : Calls Try.prog 10 #[] w fun e w' => e = .returned (.bool true) ∧ Kept w w' := by
  have hu := Try.underlying9
  go_enter Try.func10, Try.ntmps10
  go_wp2_with fail
  generalize hs : ({ data := #[60, 97, 32, 98, 61, 39, 99, 39, 47, 62] } : ByteArray) = s
  have hs' : s = eg := hs.symm
  clear hs
  have hsz : s.size = 10 := by rw [hs']; exact eg_size
  have hasc : ∀ i (h : i < s.size), (s[i]'h).toNat < 128 := by rw [hs']; exact eg_ascii
  have HS := Lib.hid hs'
  clear hs'
  have HSz := Lib.hid hsz
  clear hsz
  go_loopw [1] (fun v wr => ∃ (pos : Nat) (A : Option Addr) (c : Nat), pos ≤ s.size ∧ v = .slice A pos c ∧ wr.heap[w.heap.size]? = some (.stringIter s pos) ∧ wr.ownsRow (w.heap.size + 1) 21 1 (.slice A pos c) pos ((s.data.toList.take pos).map (fun (b : UInt8) => Value.int .i32 (b.toNat : Int))) ∧ Kept w wr)
    (fun _ wr => s.size - wr.iterPos w.heap.size)
  case atStart =>
    exact ⟨0, none, 0, Nat.zero_le _, rfl, World.iter_heap w s 0, World.ownsRow_nil _ _ _ _, (Kept.refl _).alloc _⟩
  case round =>
    obtain ⟨pos, A, c, hps, rfl, hit, hown, hk⟩ := hrel
    by_cases hp : pos < s.size
    · have h128 := hasc pos hp
      have hnext : ∀ ty, (Instr.next (.pointer (some ⟨w.heap.size, 0, none⟩)) true ty).run Try.prog wr = _ := fun ty => Lib.run_next_ascii_at wr w.heap.size s pos ty hit hp h128
      have hk1 := Lib.iterAt_heap wr w.heap.size s pos (pos + 1) hit
      have hown1 := ownsRow_iterAt hown (k := w.heap.size) (by omega) s (pos + 1)
      have hkp : Kept w (wr.iterAt w.heap.size s (pos + 1)) := Lib.below_iterAt hk (Nat.le_refl _) s (pos + 1)
      have hmu : wr.iterPos w.heap.size = pos := iterPos_of hit
      have hsn := Lib.hid (take_snoc hp)
      generalize wr.iterAt w.heap.size s (pos + 1) = W1 at hnext hown1 hk1 hkp
      have hW := hkp.size
      go_wp2_with (at_builtin; refine wpList_app (by rfl) _ _ (by rfl) appT_runes (by rfl) (hown1.alloc _) (by rfl) (Sl.litg (by rfl) ?_ (by omega)) ?_ ?_ ?_ ?_; (exact rfl); (exact rfl); (have := HSz.out; omega); (have := (Lib.iterAt_heap); simp; omega); (intro v' w' hown' hgr hob; obtain ⟨VA', VC', rfl, hVs⟩ := own_sl hown'))
      have hlt1 : w.heap.size < W1.heap.size := by
        rcases Nat.lt_or_ge w.heap.size W1.heap.size with h | h
        · exact h
        · rw [Array.getElem?_eq_none h] at hk1
          cases hk1
      have hit2 : w'.heap[w.heap.size]? = some (.stringIter s (pos + 1)) :=
        ((World.grownBy.block hgr w.heap.size (by simp; omega) (fun e => by have := hown1.lt _ e.symm; omega)).trans (Below.heap_alloc W1 _ _ hlt1)).trans hk1
      have hk2 : Kept w w' := (hkp.alloc _).grown hgr (fun k e => by have := hown1.lt k e; omega)
      clear hown hown1 hgr hob hVs hit hnext hk hkp
      go_roundw
      case rel => exact ⟨pos + 1, VA', VC', hp, rfl, hit2, by rw [hsn.out]; exact hown', hk2⟩
      case measure =>
        rw [hmu, iterPos_of hit2]
        omega
    · have hpe : pos = 10 := by have := HSz.out; omega
      have hnext : ∀ ty, (Instr.next (.pointer (some ⟨w.heap.size, 0, none⟩)) true ty).run Try.prog wr = _ := fun ty => Lib.run_next_end_at wr w.heap.size s pos ty hit hp
      obtain ⟨A2, c2, hVe, hV⟩ := own_sl hown
      injection hVe with e1 e2 e3
      subst e1 e3
      rw [List.take_of_length_le (by rw [Array.length_toList]; have h1 := HSz.out; have h2 : s.data.size = s.size := rfl; omega), HS.out, eg_cells] at hV
      subst hpe
      clear hown hit
      go_wp2_with fail
      refine (read_any _ _ _ egL 0 10 _ hV (by omega)).mono ?_
      rintro e w2 ⟨VA, VC, rfl, hT, hk2⟩
      rw [eg_read] at hT ⊢
      dsimp only
      have hV2 := hV.kept hk2
      go_wp2_with fail
      refine (parts_any _ _ _ egL 0 10 _ (hV2.kept ((Kept.refl _).alloc _)) (by omega)).mono ?_
      rintro e w3 ⟨A3, c3, rfl, hP, hk3, _⟩
      rw [eg_parts] at hP ⊢
      have B := (Blk.new w2 #[.int .i64 2, .int .i64 1, .int .i64 2, .slice VA 1 VC, .bool true, .bool true] 36).kept hk3
      have fB := B.cell
      have hK := (hk.trans hk2).alloc (.cells #[.int .i64 2, .int .i64 1, .int .i64 2, .slice VA 1 VC, .bool true, .bool true] 36) |>.trans hk3
      go_wp2_with fail
      go_ret
      exact ⟨rfl, hK⟩
end Go.Proofs.Ytbebmmohambngaa
