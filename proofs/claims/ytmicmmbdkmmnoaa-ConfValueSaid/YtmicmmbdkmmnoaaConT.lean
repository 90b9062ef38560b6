/- Ends of lines: conf.Break and the document's, walked (printed by wip/gen/gen_cont.py). -/
import Derived.Test.YtmicmmbdkmmnoaaConW
import Derived.Test.YtmicmmbdkmmnoaaScanW
namespace Go.Proofs.Ytmicmmbdkmmnoaa
open Go.RowKit
attribute [local go_sem ↓] Go.wp_at_zero Go.wp_at_succ

theorem ours_any (c : Cf) (w : World) : Calls Try.prog 9 #[c.val] w fun e w' => e = .returned c.val ∧ Kept w w' := by
  obtain ⟨ci, cd, cq, ce, cl, ct, cr⟩ := c
  unfold Cf.val
  go_enter Try.func9, Try.ntmps9
  go_wp2_with fail
  exact bodyPost_ret (v := .agg #[.int .i64 ci, .int .i64 cd, .int .i64 cq, .int .i64 ce, .int .i64 cl, .bool ct, .bool cr]) (by simp [results, Try.results9, go_sem]) rfl ⟨rfl, by repeat (first | (with_reducible exact Kept.refl _) | (with_reducible refine Kept.drewN ?_ _) | (with_reducible refine Kept.drew ?_) | (with_reducible refine Kept.setCell ?_ (by simp) _) | (with_reducible refine Kept.alloc ?_ _))⟩

theorem Blk.at_ {w : World} {g : Nat} (hg : g = w.heap.size) (cs : Array Value) (t : TypeId) : Blk (w.alloc (.cells cs t)) g cs t := hg ▸ Blk.new w cs t
theorem appT_run : AppT Try.prog 36 21 1 := appT_mk (z := .int .i32 0) (bytes := 4) Try.underlying36 (by kernel_rfl) rfl (by omega) (by omega)
def breakF (l : Int) : List Int := if l = 1 then [13, 10] else if l = 2 then [13] else [10]
def bytesI (s : ByteArray) : List Int := s.data.toList.map fun b => (b.toNat : Int)
theorem bytesI_len (s : ByteArray) : (bytesI s).length = s.size := by
  unfold bytesI
  rw [List.length_map]
  rfl
theorem bytesI_snoc {s : ByteArray} {k : Nat} (h : k < s.size) : (bytesI s).take (k + 1) = (bytesI s).take k ++ [((s[k]'h).toNat : Int)] := by
  have : (bytesI s)[k]? = some ((s[k]'h).toNat : Int) := by
    unfold bytesI
    rw [List.getElem?_map, List.getElem?_eq_getElem (show k < s.data.toList.length from h)]
    rfl
  rw [List.take_add_one, this]
  rfl
theorem own_not_iterC {w : World} {base : Nat} {e : TypeId} {size : Nat} {v : Value} {n : Nat} {xs : List Value} (h : w.ownsRow base e size v n xs) {k : Nat} {s : ByteArray} {p : Nat} (hit : w.heap[k]? = some (.stringIter s p)) : v.ownBlock ≠ some k := by
  obtain ⟨h1, h2⟩ := h
  rcases h2 with ⟨rfl, _⟩ | ⟨g, cap, cur, rfl, b, c, d⟩
  · intro e
    simp [Value.ownBlock] at e
  · intro e
    have : g = k := by simpa [Value.ownBlock] using e
    subst this
    rw [c] at hit
    cases hit
theorem own_iterC {w : World} {base : Nat} {e : TypeId} {size : Nat} {v : Value} {n : Nat} {xs : List Value} (h : w.ownsRow base e size v n xs) {k : Nat} {s : ByteArray} {p : Nat} (hit : w.heap[k]? = some (.stringIter s p)) (p' : Nat) : (w.iterAt k s p').ownsRow base e size v n xs := by
  have hn := own_not_iterC h hit
  obtain ⟨h1, h2⟩ := h
  refine ⟨h1, ?_⟩
  rcases h2 with h2 | ⟨g, cap, cur, rfl, b, c, d⟩
  · exact .inl h2
  · refine .inr ⟨g, cap, cur, rfl, b, ?_, d⟩
    rw [Lib.iterAt_other _ _ _ _ _ (fun e => hn (by simp [Value.ownBlock, e]))]
    exact c
set_option maxRecDepth 100000 in
set_option maxHeartbeats 8000000 in
theorem break_any (c : Cf) (w : World) : Calls Try.prog 14 #[c.val] w fun e w' => ∃ A d, e = .returned (.slice A (breakF (clampF c).l).length d) ∧ Sl w' 1 A (breakF (clampF c).l).length d ((breakF (clampF c).l).map (Value.int .i32)) ∧ Kept w w' := by
  have hu := Try.underlying9
  have hc := fun w => clamp_any c w
  obtain ⟨c', hc'⟩ : ∃ c', clampF c = c' := ⟨_, rfl⟩
  have hb : 0 ≤ c'.l ∧ c'.l ≤ 2 := by
    rw [← hc']
    exact near_bd _ _ _ (by omega)
  rw [hc'] at hc ⊢
  have HC := Lib.hid hc
  clear hc' hc
  obtain ⟨ci, cd, cq, ce, cl, ct, cr⟩ := c
  obtain ⟨di, dd, dq, de, dl, dt, dr⟩ := c'
  unfold Cf.val at HC ⊢
  dsimp only at hb ⊢
  dsimp only at HC
  have hfd : ∀ w : World, (Instr.field 23 (.agg #[.int .i64 di, .int .i64 dd, .int .i64 dq, .int .i64 de, .int .i64 dl, .bool dt, .bool dr]) 4).run Try.prog w = .ok (.int .i64 dl) w := fun _ => by kernel_rfl
  rcases (show dl = 0 ∨ dl = 1 ∨ dl = 2 by omega) with rfl | rfl | rfl
  · go_enter Try.func14, Try.ntmps14
    go_upto_region 3 with fail
    have kw := ((Kept.refl w).alloc (.cells #[.int .i64 ci, .int .i64 cd, .int .i64 cq, .int .i64 ce, .int .i64 cl, .bool ct, .bool cr] 23)).alloc (.cells #[.string ⟨#[10]⟩, .string ⟨#[13, 10]⟩, .string ⟨#[13]⟩] 58)
    have ba := (Blk.new w #[.int .i64 ci, .int .i64 cd, .int .i64 cq, .int .i64 ce, .int .i64 cl, .bool ct, .bool cr] 23).alloc (.cells #[.string ⟨#[10]⟩, .string ⟨#[13, 10]⟩, .string ⟨#[13]⟩] 58)
    have bb := Blk.at_ (w := w.alloc (.cells #[.int .i64 ci, .int .i64 cd, .int .i64 cq, .int .i64 ce, .int .i64 cl, .bool ct, .bool cr] 23)) (g := w.heap.size + 1) (by simp) #[.string ⟨#[10]⟩, .string ⟨#[13, 10]⟩, .string ⟨#[13]⟩] 58
    generalize (w.alloc (.cells #[.int .i64 ci, .int .i64 cd, .int .i64 cq, .int .i64 ce, .int .i64 cl, .bool ct, .bool cr] 23)).alloc (.cells #[.string ⟨#[10]⟩, .string ⟨#[13, 10]⟩, .string ⟨#[13]⟩] 58) = w1 at kw ba bb ⊢
    obtain ⟨g, hg⟩ : ∃ g, w.heap.size = g := ⟨_, rfl⟩
    rw [hg] at ba bb ⊢
    have ca := ba.cell
    have la := ba.lt
    go_wp2_with fail
    refine (HC.out _).mono ?_
    rintro e w2 ⟨rfl, k2⟩
    have k02 := kw.trans k2
    have cb := (bb.kept k2).cell
    have lb := (bb.kept k2).lt
    clear ca la ba bb kw k2
    go_wp2_with fail
    generalize hS : ({ data := #[10] } : ByteArray) = S
    have hsz : S.size = 1 := by rw [← hS]; rfl
    have hasc : ∀ i (h : i < S.size), (S[i]'h).toNat < 128 := by
      intro i h
      have : ∀ b ∈ S.data.toList, b.toNat < 128 := by rw [← hS]; decide
      exact this _ (List.getElem_mem (h := h))
    have hfin : bytesI S = [10] := by rw [← hS]; rfl
    clear hS cb lb
    have HASC := Lib.hid hasc
    have HFIN := Lib.hid hfin
    clear hasc hfin
    have hown0 : w2.ownsRow w.heap.size 21 1 (.slice none 0 0) 0 (([] : List Int).map (Value.int .i32)) := World.ownsRow_nil _ _ _ _
    have hk0 := k02
    go_loopw [4] (fun v wr => ∃ (pos : Nat) (UA : Option Addr) (UC : Nat), pos ≤ S.size ∧ v = .slice UA pos UC ∧ wr.heap[w2.heap.size]? = some (.stringIter S pos) ∧ wr.ownsRow w.heap.size 21 1 (.slice UA pos UC) pos (((bytesI S).take pos).map (Value.int .i32)) ∧ Kept w wr)
      (fun _ wr => S.size - wr.iterPos w2.heap.size)
    case atStart =>
      exact ⟨0, none, 0, Nat.zero_le _, rfl, World.iter_heap w2 S 0, by show (World.alloc w2 (.stringIter S 0)).ownsRow _ _ _ _ _ _; simpa using hown0.alloc (.stringIter S 0), hk0.alloc _⟩
    case round =>
      obtain ⟨pos, UA, UC, hps, rfl, hit, hown, hkq⟩ := hrel
      by_cases hp : pos < S.size
      · have h128 := HASC.out pos hp
        have hnext : ∀ ty, (Instr.next (.pointer (some ⟨w2.heap.size, 0, none⟩)) true ty).run Try.prog wr = _ := fun ty => Lib.run_next_ascii_at wr w2.heap.size S pos ty hit hp h128
        have hkI := Lib.iterAt_heap wr w2.heap.size S pos (pos + 1) hit
        have hownI := own_iterC hown hit (pos + 1)
        have hW0 := hk0.size
        have hkp : Kept w (wr.iterAt w2.heap.size S (pos + 1)) := Lib.below_iterAt hkq hW0 S (pos + 1)
        have hmu : wr.iterPos w2.heap.size = pos := iterPos_of hit
        have hsn := Lib.hid (bytesI_snoc hp)
        generalize wr.iterAt w2.heap.size S (pos + 1) = W1 at hnext hownI hkI hkp
        have hW := hkp.size
        have hni := own_not_iterC hownI hkI
        clear hown hit
        go_wp2_with (at_builtin; refine wpList_app (by rfl) _ _ (by rfl) appT_run (by rfl) (hownI.alloc _) (by rfl) (Sl.litg (by rfl) ?_ (by omega)) ?_ ?_ ?_ ?_; (exact rfl); (exact rfl); (omega); (simp; omega); (intro v' w' hown' hgr hob; obtain ⟨VA', VC', rfl, hVs⟩ := own_sl hown'))
        have hlt1 : w2.heap.size < W1.heap.size := (Array.getElem?_eq_some_iff.1 hkI).1
        have hit2 : w'.heap[w2.heap.size]? = some (.stringIter S (pos + 1)) :=
          ((World.grownBy.block hgr w2.heap.size (by simp; omega) (fun e => hni e.symm)).trans (Below.heap_alloc W1 _ _ hlt1)).trans hkI
        have hk2 : Kept w w' := (hkp.alloc _).grown hgr (fun k e => by have := hownI.lt k e; omega)
        clear hownI hgr hob hVs hnext hkp hkI hni
        go_roundw
        case rel => exact ⟨pos + 1, VA', VC', hp, by first | rfl | simp, hit2, by rw [hsn.out, List.map_append]; first | exact hown' | simpa using hown', hk2⟩
        case measure =>
          rw [hmu, iterPos_of hit2]
          omega
      · have hpe : pos = S.size := by omega
        have hnext : ∀ ty, (Instr.next (.pointer (some ⟨w2.heap.size, 0, none⟩)) true ty).run Try.prog wr = _ := fun ty => Lib.run_next_end_at wr w2.heap.size S pos ty hit hp
        rw [hpe, List.take_of_length_le (by rw [bytesI_len]; omega), HFIN.out, hsz] at hown
        rw [hpe, hsz]
        clear hit
        obtain ⟨A2, c2, hVe, hV⟩ := own_sl hown
        injection hVe with e1 e2 e3
        subst e1 e3
        go_wp2_with fail
        go_ret
        exact ⟨UA, UC, rfl, hV, hkq⟩
  · go_enter Try.func14, Try.ntmps14
    go_upto_region 3 with fail
    have kw := ((Kept.refl w).alloc (.cells #[.int .i64 ci, .int .i64 cd, .int .i64 cq, .int .i64 ce, .int .i64 cl, .bool ct, .bool cr] 23)).alloc (.cells #[.string ⟨#[10]⟩, .string ⟨#[13, 10]⟩, .string ⟨#[13]⟩] 58)
    have ba := (Blk.new w #[.int .i64 ci, .int .i64 cd, .int .i64 cq, .int .i64 ce, .int .i64 cl, .bool ct, .bool cr] 23).alloc (.cells #[.string ⟨#[10]⟩, .string ⟨#[13, 10]⟩, .string ⟨#[13]⟩] 58)
    have bb := Blk.at_ (w := w.alloc (.cells #[.int .i64 ci, .int .i64 cd, .int .i64 cq, .int .i64 ce, .int .i64 cl, .bool ct, .bool cr] 23)) (g := w.heap.size + 1) (by simp) #[.string ⟨#[10]⟩, .string ⟨#[13, 10]⟩, .string ⟨#[13]⟩] 58
    generalize (w.alloc (.cells #[.int .i64 ci, .int .i64 cd, .int .i64 cq, .int .i64 ce, .int .i64 cl, .bool ct, .bool cr] 23)).alloc (.cells #[.string ⟨#[10]⟩, .string ⟨#[13, 10]⟩, .string ⟨#[13]⟩] 58) = w1 at kw ba bb ⊢
    obtain ⟨g, hg⟩ : ∃ g, w.heap.size = g := ⟨_, rfl⟩
    rw [hg] at ba bb ⊢
    have ca := ba.cell
    have la := ba.lt
    go_wp2_with fail
    refine (HC.out _).mono ?_
    rintro e w2 ⟨rfl, k2⟩
    have k02 := kw.trans k2
    have cb := (bb.kept k2).cell
    have lb := (bb.kept k2).lt
    clear ca la ba bb kw k2
    go_wp2_with fail
    generalize hS : ({ data := #[13, 10] } : ByteArray) = S
    have hsz : S.size = 2 := by rw [← hS]; rfl
    have hasc : ∀ i (h : i < S.size), (S[i]'h).toNat < 128 := by
      intro i h
      have : ∀ b ∈ S.data.toList, b.toNat < 128 := by rw [← hS]; decide
      exact this _ (List.getElem_mem (h := h))
    have hfin : bytesI S = [13, 10] := by rw [← hS]; rfl
    clear hS cb lb
    have HASC := Lib.hid hasc
    have HFIN := Lib.hid hfin
    clear hasc hfin
    have hown0 : w2.ownsRow w.heap.size 21 1 (.slice none 0 0) 0 (([] : List Int).map (Value.int .i32)) := World.ownsRow_nil _ _ _ _
    have hk0 := k02
    go_loopw [4] (fun v wr => ∃ (pos : Nat) (UA : Option Addr) (UC : Nat), pos ≤ S.size ∧ v = .slice UA pos UC ∧ wr.heap[w2.heap.size]? = some (.stringIter S pos) ∧ wr.ownsRow w.heap.size 21 1 (.slice UA pos UC) pos (((bytesI S).take pos).map (Value.int .i32)) ∧ Kept w wr)
      (fun _ wr => S.size - wr.iterPos w2.heap.size)
    case atStart =>
      exact ⟨0, none, 0, Nat.zero_le _, rfl, World.iter_heap w2 S 0, by show (World.alloc w2 (.stringIter S 0)).ownsRow _ _ _ _ _ _; simpa using hown0.alloc (.stringIter S 0), hk0.alloc _⟩
    case round =>
      obtain ⟨pos, UA, UC, hps, rfl, hit, hown, hkq⟩ := hrel
      by_cases hp : pos < S.size
      · have h128 := HASC.out pos hp
        have hnext : ∀ ty, (Instr.next (.pointer (some ⟨w2.heap.size, 0, none⟩)) true ty).run Try.prog wr = _ := fun ty => Lib.run_next_ascii_at wr w2.heap.size S pos ty hit hp h128
        have hkI := Lib.iterAt_heap wr w2.heap.size S pos (pos + 1) hit
        have hownI := own_iterC hown hit (pos + 1)
        have hW0 := hk0.size
        have hkp : Kept w (wr.iterAt w2.heap.size S (pos + 1)) := Lib.below_iterAt hkq hW0 S (pos + 1)
        have hmu : wr.iterPos w2.heap.size = pos := iterPos_of hit
        have hsn := Lib.hid (bytesI_snoc hp)
        generalize wr.iterAt w2.heap.size S (pos + 1) = W1 at hnext hownI hkI hkp
        have hW := hkp.size
        have hni := own_not_iterC hownI hkI
        clear hown hit
        go_wp2_with (at_builtin; refine wpList_app (by rfl) _ _ (by rfl) appT_run (by rfl) (hownI.alloc _) (by rfl) (Sl.litg (by rfl) ?_ (by omega)) ?_ ?_ ?_ ?_; (exact rfl); (exact rfl); (omega); (simp; omega); (intro v' w' hown' hgr hob; obtain ⟨VA', VC', rfl, hVs⟩ := own_sl hown'))
        have hlt1 : w2.heap.size < W1.heap.size := (Array.getElem?_eq_some_iff.1 hkI).1
        have hit2 : w'.heap[w2.heap.size]? = some (.stringIter S (pos + 1)) :=
          ((World.grownBy.block hgr w2.heap.size (by simp; omega) (fun e => hni e.symm)).trans (Below.heap_alloc W1 _ _ hlt1)).trans hkI
        have hk2 : Kept w w' := (hkp.alloc _).grown hgr (fun k e => by have := hownI.lt k e; omega)
        clear hownI hgr hob hVs hnext hkp hkI hni
        go_roundw
        case rel => exact ⟨pos + 1, VA', VC', hp, by first | rfl | simp, hit2, by rw [hsn.out, List.map_append]; first | exact hown' | simpa using hown', hk2⟩
        case measure =>
          rw [hmu, iterPos_of hit2]
          omega
      · have hpe : pos = S.size := by omega
        have hnext : ∀ ty, (Instr.next (.pointer (some ⟨w2.heap.size, 0, none⟩)) true ty).run Try.prog wr = _ := fun ty => Lib.run_next_end_at wr w2.heap.size S pos ty hit hp
        rw [hpe, List.take_of_length_le (by rw [bytesI_len]; omega), HFIN.out, hsz] at hown
        rw [hpe, hsz]
        clear hit
        obtain ⟨A2, c2, hVe, hV⟩ := own_sl hown
        injection hVe with e1 e2 e3
        subst e1 e3
        go_wp2_with fail
        go_ret
        exact ⟨UA, UC, rfl, hV, hkq⟩
  · go_enter Try.func14, Try.ntmps14
    go_upto_region 3 with fail
    have kw := ((Kept.refl w).alloc (.cells #[.int .i64 ci, .int .i64 cd, .int .i64 cq, .int .i64 ce, .int .i64 cl, .bool ct, .bool cr] 23)).alloc (.cells #[.string ⟨#[10]⟩, .string ⟨#[13, 10]⟩, .string ⟨#[13]⟩] 58)
    have ba := (Blk.new w #[.int .i64 ci, .int .i64 cd, .int .i64 cq, .int .i64 ce, .int .i64 cl, .bool ct, .bool cr] 23).alloc (.cells #[.string ⟨#[10]⟩, .string ⟨#[13, 10]⟩, .string ⟨#[13]⟩] 58)
    have bb := Blk.at_ (w := w.alloc (.cells #[.int .i64 ci, .int .i64 cd, .int .i64 cq, .int .i64 ce, .int .i64 cl, .bool ct, .bool cr] 23)) (g := w.heap.size + 1) (by simp) #[.string ⟨#[10]⟩, .string ⟨#[13, 10]⟩, .string ⟨#[13]⟩] 58
    generalize (w.alloc (.cells #[.int .i64 ci, .int .i64 cd, .int .i64 cq, .int .i64 ce, .int .i64 cl, .bool ct, .bool cr] 23)).alloc (.cells #[.string ⟨#[10]⟩, .string ⟨#[13, 10]⟩, .string ⟨#[13]⟩] 58) = w1 at kw ba bb ⊢
    obtain ⟨g, hg⟩ : ∃ g, w.heap.size = g := ⟨_, rfl⟩
    rw [hg] at ba bb ⊢
    have ca := ba.cell
    have la := ba.lt
    go_wp2_with fail
    refine (HC.out _).mono ?_
    rintro e w2 ⟨rfl, k2⟩
    have k02 := kw.trans k2
    have cb := (bb.kept k2).cell
    have lb := (bb.kept k2).lt
    clear ca la ba bb kw k2
    go_wp2_with fail
    generalize hS : ({ data := #[13] } : ByteArray) = S
    have hsz : S.size = 1 := by rw [← hS]; rfl
    have hasc : ∀ i (h : i < S.size), (S[i]'h).toNat < 128 := by
      intro i h
      have : ∀ b ∈ S.data.toList, b.toNat < 128 := by rw [← hS]; decide
      exact this _ (List.getElem_mem (h := h))
    have hfin : bytesI S = [13] := by rw [← hS]; rfl
    clear hS cb lb
    have HASC := Lib.hid hasc
    have HFIN := Lib.hid hfin
    clear hasc hfin
    have hown0 : w2.ownsRow w.heap.size 21 1 (.slice none 0 0) 0 (([] : List Int).map (Value.int .i32)) := World.ownsRow_nil _ _ _ _
    have hk0 := k02
    go_loopw [4] (fun v wr => ∃ (pos : Nat) (UA : Option Addr) (UC : Nat), pos ≤ S.size ∧ v = .slice UA pos UC ∧ wr.heap[w2.heap.size]? = some (.stringIter S pos) ∧ wr.ownsRow w.heap.size 21 1 (.slice UA pos UC) pos (((bytesI S).take pos).map (Value.int .i32)) ∧ Kept w wr)
      (fun _ wr => S.size - wr.iterPos w2.heap.size)
    case atStart =>
      exact ⟨0, none, 0, Nat.zero_le _, rfl, World.iter_heap w2 S 0, by show (World.alloc w2 (.stringIter S 0)).ownsRow _ _ _ _ _ _; simpa using hown0.alloc (.stringIter S 0), hk0.alloc _⟩
    case round =>
      obtain ⟨pos, UA, UC, hps, rfl, hit, hown, hkq⟩ := hrel
      by_cases hp : pos < S.size
      · have h128 := HASC.out pos hp
        have hnext : ∀ ty, (Instr.next (.pointer (some ⟨w2.heap.size, 0, none⟩)) true ty).run Try.prog wr = _ := fun ty => Lib.run_next_ascii_at wr w2.heap.size S pos ty hit hp h128
        have hkI := Lib.iterAt_heap wr w2.heap.size S pos (pos + 1) hit
        have hownI := own_iterC hown hit (pos + 1)
        have hW0 := hk0.size
        have hkp : Kept w (wr.iterAt w2.heap.size S (pos + 1)) := Lib.below_iterAt hkq hW0 S (pos + 1)
        have hmu : wr.iterPos w2.heap.size = pos := iterPos_of hit
        have hsn := Lib.hid (bytesI_snoc hp)
        generalize wr.iterAt w2.heap.size S (pos + 1) = W1 at hnext hownI hkI hkp
        have hW := hkp.size
        have hni := own_not_iterC hownI hkI
        clear hown hit
        go_wp2_with (at_builtin; refine wpList_app (by rfl) _ _ (by rfl) appT_run (by rfl) (hownI.alloc _) (by rfl) (Sl.litg (by rfl) ?_ (by omega)) ?_ ?_ ?_ ?_; (exact rfl); (exact rfl); (omega); (simp; omega); (intro v' w' hown' hgr hob; obtain ⟨VA', VC', rfl, hVs⟩ := own_sl hown'))
        have hlt1 : w2.heap.size < W1.heap.size := (Array.getElem?_eq_some_iff.1 hkI).1
        have hit2 : w'.heap[w2.heap.size]? = some (.stringIter S (pos + 1)) :=
          ((World.grownBy.block hgr w2.heap.size (by simp; omega) (fun e => hni e.symm)).trans (Below.heap_alloc W1 _ _ hlt1)).trans hkI
        have hk2 : Kept w w' := (hkp.alloc _).grown hgr (fun k e => by have := hownI.lt k e; omega)
        clear hownI hgr hob hVs hnext hkp hkI hni
        go_roundw
        case rel => exact ⟨pos + 1, VA', VC', hp, by first | rfl | simp, hit2, by rw [hsn.out, List.map_append]; first | exact hown' | simpa using hown', hk2⟩
        case measure =>
          rw [hmu, iterPos_of hit2]
          omega
      · have hpe : pos = S.size := by omega
        have hnext : ∀ ty, (Instr.next (.pointer (some ⟨w2.heap.size, 0, none⟩)) true ty).run Try.prog wr = _ := fun ty => Lib.run_next_end_at wr w2.heap.size S pos ty hit hp
        rw [hpe, List.take_of_length_le (by rw [bytesI_len]; omega), HFIN.out, hsz] at hown
        rw [hpe, hsz]
        clear hit
        obtain ⟨A2, c2, hVe, hV⟩ := own_sl hown
        injection hVe with e1 e2 e3
        subst e1 e3
        go_wp2_with fail
        go_ret
        exact ⟨UA, UC, rfl, hV, hkq⟩

set_option maxRecDepth 100000 in
set_option maxHeartbeats 4000000 in
theorem rbreak_any (c : Cf) (w : World) : Calls Try.prog 15 #[c.val] w fun e w' => ∃ A d, e = .returned (.slice A (breakF (clampF c).l).length d) ∧ Sl w' 1 A (breakF (clampF c).l).length d ((breakF (clampF c).l).map (Value.int .i32)) ∧ Kept w w' := by
  have hc := fun w => rclamp_any c w
  obtain ⟨c', hc'⟩ : ∃ c', clampF c = c' := ⟨_, rfl⟩
  have hb : 0 ≤ c'.l ∧ c'.l ≤ 2 := by
    rw [← hc']
    exact near_bd _ _ _ (by omega)
  rw [hc'] at hc ⊢
  have HC := Lib.hid hc
  clear hc' hc
  obtain ⟨ci, cd, cq, ce, cl, ct, cr⟩ := c
  obtain ⟨di, dd, dq, de, dl, dt, dr⟩ := c'
  unfold Cf.val at HC ⊢
  dsimp only at hb ⊢
  dsimp only at HC
  have hfd : ∀ w : World, (Instr.field 27 (.agg #[.int .i64 di, .int .i64 dd, .int .i64 dq, .int .i64 de, .int .i64 dl, .bool dt, .bool dr]) 4).run Try.prog w = .ok (.int .i64 dl) w := fun _ => by kernel_rfl
  rcases (show dl = 0 ∨ dl = 1 ∨ dl = 2 by omega) with rfl | rfl | rfl
  all_goals
    go_enter Try.func15, Try.ntmps15
    go_wp2_with fail
    refine (HC.out _).mono ?_
    rintro e w2 ⟨rfl, k2⟩
    go_wp2_with fail
    go_ret
    exact ⟨_, _, rfl, Sl.lit1 rfl rfl (by decide), (((Kept.refl _).alloc _).trans k2).alloc _⟩
/-- 'same' of two rows of runes that are the same. -/
theorem csame_any (A : Option Addr) (n c : Nat) (B : Option Addr) (d : Nat) (L : List Int) (w : World) (h : Sl w 1 A n c (L.map (Value.int .i32))) (h' : Sl w 1 B n d (L.map (Value.int .i32))) :
    Calls Try.prog 13 #[.slice A n c, .slice B n d] w fun e w' => e = .returned (.bool true) ∧ Kept w w' := by
  have hcap := h.cap
  have hmax := h.max
  have hcap' := h'.cap
  have hmax' := h'.max
  go_enter Try.func13, Try.ntmps13
  go_wp2_with fail
  go_loopw [13] (fun i wr => ∃ k : Nat, k ≤ n ∧ i = .int .i64 k ∧ Kept w wr) (fun i _ => n - (intOf i).toNat)
  case atStart => exact ⟨0, Nat.zero_le _, rfl, Kept.refl _⟩
  case round =>
    obtain ⟨k, hk, rfl, hkr⟩ := hrel
    by_cases hlt : k < n
    · obtain ⟨b, o, x, hA, hx, x0, hb⟩ := (h.kept hkr).oneb hlt
      obtain ⟨b', o', y, hB, hy, y0, hb'⟩ := (h'.kept hkr).oneb hlt
      rw [hx] at hy
      injection hy with hy
      subst hy
      subst hA hB
      have sx : (x != x) = false := by simp
      clear hx
      go_upto_region 6 with fail
      go_quiet (fail)
      go_wp2_with fail
      go_roundw
      case rel => exact ⟨k + 1, hlt, by go_num, hkr.drewN _⟩
      case measure =>
        simp [intOf]
        omega
    · obtain rfl : k = n := by omega
      go_wp2_with fail
      go_ret
      exact ⟨rfl, hkr⟩
end Go.Proofs.Ytmicmmbdkmmnoaa
