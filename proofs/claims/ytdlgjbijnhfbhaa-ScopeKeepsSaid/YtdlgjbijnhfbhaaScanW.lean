/- Bytes as runes (layer 1), a text's runes (layer 5): walked. -/
import Derived.Test.YtdlgjbijnhfbhaaRun
import Derived.Test.YtdlgjbijnhfbhaaStr
import Derived.Lib.BufferKept
import Derived.Lib.ConvBytes
import Derived.Laws.RangeString
import Derived.Laws.RangeAny
import Derived.WalkSmall
namespace Go.Proofs.Ytdlgjbijnhfbhaa
open Go.RowKit

def widthF (r : Int) : Int := if r < 0 ∨ 1114111 < r ∨ (55296 ≤ r ∧ r ≤ 57343) then 0 else if r < 128 then 1 else if r < 2048 then 2 else if r < 65536 then 3 else 4
/-- Is a replacement rune at a place one that stands for bytes that are none? -/
def badS (s : ByteArray) (pos : Nat) : Bool := decide (s.size - pos < 3) || !((s.extract pos (pos + 3)).toList == [239, 191, 189])
structure It where
  r : Int
  off : Nat
  n : Int
def itC (x : It) : List Value := [.int .i32 x.r, .int .i64 x.off, .int .i64 x.n]
/-- The item at a place of a text. -/
def itemAt (s : ByteArray) (pos : Nat) : It :=
  if (Utf8.decode s pos).1 = 65533 ∧ badS s pos = true then ⟨-1, pos, 1⟩ else ⟨(Utf8.decode s pos).1, pos, widthF (Utf8.decode s pos).1⟩
def itemsG (s : ByteArray) : Nat → Nat → List It
  | 0, _ => []
  | f + 1, pos => if pos < s.size then itemAt s pos :: itemsG s f (pos + (Utf8.decode s pos).2) else []
def itemsX (s : ByteArray) (pos : Nat) : List It := itemsG s (s.size - pos) pos
theorem dec_pos {s : ByteArray} {pos : Nat} (h : pos < s.size) : 1 ≤ (Utf8.decode s pos).2 := by
  rcases Nat.lt_or_ge (s[pos]'h).toNat 128 with ha | ha
  · rw [decode_ascii s pos h ha]
    exact Nat.le_refl _
  · exact (decode_high s pos h ha).2
theorem itemsG_fuel (s : ByteArray) : ∀ (f f' pos : Nat), s.size ≤ f + pos → s.size ≤ f' + pos → itemsG s f pos = itemsG s f' pos
  | 0, 0, _, _, _ => rfl
  | 0, f' + 1, pos, h, _ => by rw [itemsG, itemsG, if_neg (by omega)]
  | f + 1, 0, pos, _, h => by rw [itemsG, itemsG, if_neg (by omega)]
  | f + 1, f' + 1, pos, h, h' => by
    rw [itemsG, itemsG]
    split
    · rename_i hp
      have := dec_pos hp
      rw [itemsG_fuel s f f' _ (by omega) (by omega)]
    · rfl
theorem itemsX_cons {s : ByteArray} {pos : Nat} (h : pos < s.size) : itemsX s pos = itemAt s pos :: itemsX s (pos + (Utf8.decode s pos).2) := by
  have hd := dec_pos h
  unfold itemsX
  obtain ⟨m, hm⟩ : ∃ m, s.size - pos = m + 1 := ⟨s.size - pos - 1, by omega⟩
  rw [hm, itemsG, if_pos h, itemsG_fuel s m (s.size - (pos + (Utf8.decode s pos).2)) _ (by omega) (by omega)]
theorem itemsX_end {s : ByteArray} {pos : Nat} (h : ¬ pos < s.size) : itemsX s pos = [] := by
  unfold itemsX
  rw [show s.size - pos = 0 by omega]
  rfl

theorem width_any (r : Int) (w : World) : Calls Try.prog 89 #[.int .i32 r] w fun e w' => e = .returned (.int .i64 (widthF r)) ∧ w = w' := by
  go_enter Try.func89, Try.ntmps89
  go_wp2
  all_goals go_ret
  all_goals
    refine ⟨ret_int ?_, rfl⟩
    unfold widthF
    repeat' split
    all_goals omega

theorem piece_any (s : ByteArray) (pos : Nat) (w : World) (hp : pos < s.size) (hs : s.size ≤ 1000000) :
    Calls Try.prog 81 #[.string s, .int .i64 pos, .int .i32 (Utf8.decode s pos).1] w fun e w' => e = .returned (.tuple #[.int .i32 (itemAt s pos).r, .int .i64 (itemAt s pos).n]) ∧ Kept w w' := by
  obtain ⟨d, hd⟩ : ∃ d : Int, ((Utf8.decode s pos).1 : Int) = d := ⟨_, rfl⟩
  have hdd : ((Utf8.decode s pos).1 = 65533) ↔ d = 65533 := by omega
  have hit : itemAt s pos = if d = 65533 ∧ badS s pos = true then ⟨-1, pos, 1⟩ else ⟨d, pos, widthF d⟩ := by
    unfold itemAt
    rw [hd]
    by_cases h : d = 65533 ∧ badS s pos = true
    · rw [if_pos h, if_pos ⟨hdd.2 h.1, h.2⟩]
    · rw [if_neg h, if_neg (fun h2 => h ⟨hdd.1 h2.1, h2.2⟩)]
  rw [hd, hit]
  have HIT := Lib.hid hit
  clear hit hdd hd
  by_cases h1 : d = 65533
  · have e1 : (d == 65533) = true := by simpa using h1
    by_cases h2 : s.size - pos < 3
    · have hb : badS s pos = true := by unfold badS; simp [h2]
      rw [if_pos ⟨h1, hb⟩]
      have d2 : decide (((s.size : Int) - pos) < 3) = true := by simp; omega
      have w2 : IntKind.i64.wrap ((s.size : Int) - pos) = (s.size : Int) - pos := IntWalk.i64_in _ (by omega)
      clear hb
      go_enter Try.func81, Try.ntmps81
      go_wp2_with fail
      go_ret2
      exact ⟨rfl, Kept.refl _⟩
    · have d2 : decide (((s.size : Int) - pos) < 3) = false := by simp; omega
      have w2 : IntKind.i64.wrap ((s.size : Int) - pos) = (s.size : Int) - pos := IntWalk.i64_in _ (by omega)
      have w3 : IntKind.i64.wrap ((pos : Int) + 3) = (pos : Int) + 3 := IntWalk.i64_in _ (by omega)
      have l1 : (0 : Int) ≤ pos := by omega
      have l2 : (pos : Int) ≤ (pos : Int) + 3 := by omega
      have l3 : (pos : Int) + 3 ≤ s.size := by omega
      have l4 : ((pos : Int) + 3).toNat = pos + 3 := by omega
      obtain ⟨b, hb⟩ : ∃ b, ((s.extract pos (pos + 3)).toList == [239, 191, 189]) = b := ⟨_, rfl⟩
      have hbd : badS s pos = !b := by unfold badS; rw [hb]; simp [h2]
      have hh : (if d = 65533 ∧ badS s pos = true then (⟨-1, pos, 1⟩ : It) else ⟨d, pos, widthF d⟩) = if (!b) = true then ⟨-1, pos, 1⟩ else ⟨d, pos, widthF d⟩ := by
        rw [hbd]
        simp only [h1, true_and]
      rw [hh]
      clear hh hbd HIT
      subst h1
      cases b
      · go_enter Try.func81, Try.ntmps81
        go_wp2_with fail
        go_ret2
        exact ⟨rfl, Kept.refl _⟩
      · go_enter Try.func81, Try.ntmps81
        go_wp2_with fail
        refine (width_any 65533 w).mono ?_
        rintro e w1 ⟨rfl, rfl⟩
        go_wp2_with fail
        go_ret2
        exact ⟨rfl, Kept.refl _⟩
  · have e1 : (d == 65533) = false := by simpa using h1
    rw [if_neg (fun h => h1 h.1)]
    go_enter Try.func81, Try.ntmps81
    go_wp2_with fail
    refine (width_any d w).mono ?_
    rintro e w1 ⟨rfl, rfl⟩
    go_wp2_with fail
    go_ret2
    exact ⟨rfl, Kept.refl _⟩

/-- What the call owns, as a slice. -/
theorem own_sl {w : World} {base : Nat} {e : TypeId} {size n : Nat} {v : Value} {xs : List Value} (h : w.ownsRow base e size v n xs) : ∃ A c, v = .slice A n c ∧ Sl w size A n c xs := by
  obtain ⟨h1, h2⟩ := h
  rcases h2 with ⟨rfl, rfl⟩ | ⟨g, cap, cur, rfl, hb, hg, hnc, hcm, hcs, ht⟩
  · exact ⟨none, 0, rfl, h1, Nat.le_refl _, by simp [maxLen], fun h => absurd h (Nat.lt_irrefl _)⟩
  · refine ⟨_, _, rfl, h1, hnc, hcm, fun _ => ⟨g, 0, rfl, fun j u hu => ?_⟩⟩
    rw [Nat.zero_add, cell_of_row w g j cur e (0, 0) hg, ← hu, ← ht, List.getElem?_take]
    rw [if_pos (by rw [← h1]; exact (List.getElem?_eq_some_iff.1 hu).1)]
    simp
theorem appT_item : AppT Try.prog 92 96 3 := appT_mk (z := .agg #[.int .i32 0, .int .i64 0, .int .i64 0]) (bytes := 24) Try.underlying92 (by kernel_rfl) rfl (by omega) (by omega)

set_option maxHeartbeats 2000000 in
theorem items_any (A : Option Addr) (n c : Nat) (l : List Int) (w : World) (h : Sl w 1 A n c (l.map (Value.int .u8))) (hn : n ≤ 1000000) :
    Calls Try.prog 65 #[.slice A n c] w fun e w' => ∃ VA VC, e = .returned (.slice VA (itemsX (strOfNums l) 0).length VC) ∧ Sl w' 3 VA (itemsX (strOfNums l) 0).length VC ((itemsX (strOfNums l) 0).flatMap itC) ∧ Kept w w' := by
  have hcv := run_str (P := Try.prog) Try.underlying94 Try.underlying5 Try.underlying9 h
  have hl := h.llen1
  obtain ⟨s, hs⟩ : ∃ s, strOfNums l = s := ⟨_, rfl⟩
  have hsz : s.size ≤ 1000000 := by
    have : s.data.toList.length = l.length := by rw [← hs, strOfNums_data]; simp
    have h2 : s.data.toList.length = s.size := rfl
    omega
  rw [hs] at hcv ⊢
  clear hs
  have hu := Try.underlying9
  go_enter Try.func65, Try.ntmps65
  go_wp2_with fail
  go_loopw [3] (fun v wr => ∃ (pos : Nat) (D : List It) (VA : Option Addr) (VC : Nat), v = .slice VA D.length VC ∧ wr.heap[w.heap.size]? = some (.stringIter s pos) ∧ D.length ≤ pos ∧ wr.ownsRow (w.heap.size + 1) 96 3 (.slice VA D.length VC) D.length (D.flatMap itC) ∧ Kept w wr ∧ Hid (itemsX s 0 = D ++ itemsX s pos))
    (fun _ wr => s.size - wr.iterPos w.heap.size)
  case atStart =>
    exact ⟨0, [], none, 0, rfl, World.iter_heap w s 0, Nat.le_refl _, World.ownsRow_nil _ _ _ _, (Kept.refl _).alloc _, rfl⟩
  case round =>
    obtain ⟨pos, D, VA, VC, rfl, hit, hD, hown, hk, hinv⟩ := hrel
    by_cases hp : pos < s.size
    · have hnext : ∀ ty, (Instr.next (.pointer (some ⟨w.heap.size, 0, none⟩)) true ty).run Try.prog wr = _ := fun ty => Lib.run_next_any_at wr w.heap.size s pos ty hit hp
      have hk1 := Lib.iterAt_heap wr w.heap.size s pos (pos + (Utf8.decode s pos).2) hit
      have hown1 := ownsRow_iterAt hown (k := w.heap.size) (by omega) s (pos + (Utf8.decode s pos).2)
      have hkp : Kept w (wr.iterAt w.heap.size s (pos + (Utf8.decode s pos).2)) := Lib.below_iterAt hk (Nat.le_refl _) s _
      have hmu : wr.iterPos w.heap.size = pos := iterPos_of hit
      have hdp := dec_pos hp
      have hc := Lib.hid (itemsX_cons hp)
      generalize wr.iterAt w.heap.size s (pos + (Utf8.decode s pos).2) = W1 at hnext hown1 hk1 hkp
      clear hown hk hit hcv
      obtain ⟨P2, hP2⟩ : ∃ P2, pos + (Utf8.decode s pos).2 = P2 := ⟨_, rfl⟩
      rw [hP2] at hk1 hc
      have hPP : pos < P2 := by omega
      clear hP2 hdp
      have hW := hkp.size
      go_wp2_with fail
      refine (piece_any s pos _ hp hsz).mono ?_
      rintro e w2 ⟨rfl, hk2⟩
      have hown2 := own_kept hown1 hk2
      have hK2 := hkp.trans hk2
      have hlt1 : w.heap.size < W1.heap.size := by
        rcases Nat.lt_or_ge w.heap.size W1.heap.size with h | h
        · exact h
        · rw [Array.getElem?_eq_none h] at hk1
          cases hk1
      have hit2 := (Below.block hk2 w.heap.size hlt1).trans hk1
      have hlt2 := hk2.size
      obtain ⟨x, hx⟩ : ∃ x, itemAt s pos = x := ⟨_, rfl⟩
      have hxo : x.off = pos := by
        rw [← hx]
        unfold itemAt
        split <;> rfl
      rw [hx] at hc ⊢
      clear hx
      go_wp2_with (at_builtin; refine wpList_app (by rfl) _ _ (by rfl) appT_item (by rfl) (hown2.alloc _) (by rfl) (Sl.litg (by rfl) ?_ (by omega)) ?_ ?_ ?_ ?_; (exact rfl); (exact rfl); (omega); (simp; omega); (intro v' w' hown' hgr hob; obtain ⟨VA', VC', rfl, hVs⟩ := own_sl hown'))
      have hit3 : w'.heap[w.heap.size]? = some (.stringIter s P2) :=
        ((World.grownBy.block hgr w.heap.size (by simp; omega) (fun e => by have := hown2.lt _ e.symm; omega)).trans (Below.heap_alloc w2 _ _ (by omega))).trans hit2
      have hk3 : Kept w w' := (hK2.alloc _).grown hgr (fun k e => by have := hown2.lt k e; omega)
      clear hown1 hown2 hgr hob hVs hnext hkp hK2 hk1 hit2
      go_roundw
      case rel =>
        have hl1 : (D ++ [x]).length = D.length + 1 := by simp
        refine ⟨P2, D ++ [x], VA', VC', by rw [hl1], hit3, by rw [hl1]; omega, ?_, hk3, ?_⟩
        · rw [hl1, List.flatMap_append]
          simpa [itC, hxo] using hown'
        · unfold Hid
          rw [hinv.out, hc.out]
          simp
      case measure =>
        rw [hmu, iterPos_of hit3]
        omega
    · have hnext : ∀ ty, (Instr.next (.pointer (some ⟨w.heap.size, 0, none⟩)) true ty).run Try.prog wr = _ := fun ty => Lib.run_next_end_at wr w.heap.size s pos ty hit hp
      obtain ⟨A2, c2, hVe, hV⟩ := own_sl hown
      injection hVe with e1 e2 e3
      subst e1 e3
      have hfin : itemsX s 0 = D := by
        rw [hinv.out, itemsX_end hp, List.append_nil]
      have HF := Lib.hid hfin
      clear hfin
      go_wp2_with fail
      go_ret
      exact ⟨VA, VC, by rw [HF.out]; rfl, by rw [HF.out]; exact hV, hk⟩
end Go.Proofs.Ytdlgjbijnhfbhaa
