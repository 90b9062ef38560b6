/- A config's fields, and what a word says of them: walked (printed by wip/gen/gen_cony.py). -/
import Derived.Test.YtmicmmbdkmmnoaaConX
namespace Go.Proofs.Ytmicmmbdkmmnoaa
open Go.RowKit
attribute [local go_sem ↓] Go.wp_at_zero Go.wp_at_succ

theorem fields_any (g : Nat) (c : Cf) (w : World) (hb : Blk w g c.cells 23) : Calls Try.prog 32 #[.pointer (some ⟨g, 0, none⟩)] w fun e w' =>
    e = .returned (.agg #[.string ⟨#[105, 110, 100, 101, 110, 116, 61]⟩, .pointer (some ⟨g, 0, none⟩), .string ⟨#[119, 105, 100, 116, 104, 61]⟩, .pointer (some ⟨g, 1, none⟩), .string ⟨#[113, 117, 111, 116, 101, 61]⟩, .pointer (some ⟨g, 2, none⟩), .string ⟨#[101, 109, 112, 116, 121, 61]⟩, .pointer (some ⟨g, 3, none⟩), .string ⟨#[108, 105, 110, 101, 61]⟩, .pointer (some ⟨g, 4, none⟩)]) ∧ Kept w w' := by
  have hgl := hb.lt
  have hc := hb.cell
  go_enter Try.func32, Try.ntmps32
  go_upto_region 1 with fail
  go_region_with (fail)
  all_goals go_wp2_with fail
  all_goals exact bodyPost_ret (v := .agg #[.string ⟨#[105, 110, 100, 101, 110, 116, 61]⟩, .pointer (some ⟨g, 0, none⟩), .string ⟨#[119, 105, 100, 116, 104, 61]⟩, .pointer (some ⟨g, 1, none⟩), .string ⟨#[113, 117, 111, 116, 101, 61]⟩, .pointer (some ⟨g, 2, none⟩), .string ⟨#[101, 109, 112, 116, 121, 61]⟩, .pointer (some ⟨g, 3, none⟩), .string ⟨#[108, 105, 110, 101, 61]⟩, .pointer (some ⟨g, 4, none⟩)]) (by simp [results, Try.results32, go_sem]) rfl ⟨rfl, by repeat (first | (with_reducible exact Kept.refl _) | (with_reducible refine Kept.drewN ?_ _) | (with_reducible refine Kept.drew ?_) | (with_reducible refine Kept.setCell ?_ (by simp) _) | (with_reducible refine Kept.alloc ?_ _))⟩

theorem index0 (g : Nat) (w : World) : (Instr.index 63 (.agg #[.string ⟨#[105, 110, 100, 101, 110, 116, 61]⟩, .pointer (some ⟨g, 0, none⟩), .string ⟨#[119, 105, 100, 116, 104, 61]⟩, .pointer (some ⟨g, 1, none⟩), .string ⟨#[113, 117, 111, 116, 101, 61]⟩, .pointer (some ⟨g, 2, none⟩), .string ⟨#[101, 109, 112, 116, 121, 61]⟩, .pointer (some ⟨g, 3, none⟩), .string ⟨#[108, 105, 110, 101, 61]⟩, .pointer (some ⟨g, 4, none⟩)]) (.int .i64 0)).run Try.prog w = .ok (.agg #[.string ⟨#[105, 110, 100, 101, 110, 116, 61]⟩, .pointer (some ⟨g, 0, none⟩)]) w := by
  simp [Instr.index, run_underlying Try.underlying63, asIntOf, go_sem]
theorem index1 (g : Nat) (w : World) : (Instr.index 63 (.agg #[.string ⟨#[105, 110, 100, 101, 110, 116, 61]⟩, .pointer (some ⟨g, 0, none⟩), .string ⟨#[119, 105, 100, 116, 104, 61]⟩, .pointer (some ⟨g, 1, none⟩), .string ⟨#[113, 117, 111, 116, 101, 61]⟩, .pointer (some ⟨g, 2, none⟩), .string ⟨#[101, 109, 112, 116, 121, 61]⟩, .pointer (some ⟨g, 3, none⟩), .string ⟨#[108, 105, 110, 101, 61]⟩, .pointer (some ⟨g, 4, none⟩)]) (.int .i64 1)).run Try.prog w = .ok (.agg #[.string ⟨#[119, 105, 100, 116, 104, 61]⟩, .pointer (some ⟨g, 1, none⟩)]) w := by
  simp [Instr.index, run_underlying Try.underlying63, asIntOf, go_sem]
theorem index2 (g : Nat) (w : World) : (Instr.index 63 (.agg #[.string ⟨#[105, 110, 100, 101, 110, 116, 61]⟩, .pointer (some ⟨g, 0, none⟩), .string ⟨#[119, 105, 100, 116, 104, 61]⟩, .pointer (some ⟨g, 1, none⟩), .string ⟨#[113, 117, 111, 116, 101, 61]⟩, .pointer (some ⟨g, 2, none⟩), .string ⟨#[101, 109, 112, 116, 121, 61]⟩, .pointer (some ⟨g, 3, none⟩), .string ⟨#[108, 105, 110, 101, 61]⟩, .pointer (some ⟨g, 4, none⟩)]) (.int .i64 2)).run Try.prog w = .ok (.agg #[.string ⟨#[113, 117, 111, 116, 101, 61]⟩, .pointer (some ⟨g, 2, none⟩)]) w := by
  simp [Instr.index, run_underlying Try.underlying63, asIntOf, go_sem]
theorem index3 (g : Nat) (w : World) : (Instr.index 63 (.agg #[.string ⟨#[105, 110, 100, 101, 110, 116, 61]⟩, .pointer (some ⟨g, 0, none⟩), .string ⟨#[119, 105, 100, 116, 104, 61]⟩, .pointer (some ⟨g, 1, none⟩), .string ⟨#[113, 117, 111, 116, 101, 61]⟩, .pointer (some ⟨g, 2, none⟩), .string ⟨#[101, 109, 112, 116, 121, 61]⟩, .pointer (some ⟨g, 3, none⟩), .string ⟨#[108, 105, 110, 101, 61]⟩, .pointer (some ⟨g, 4, none⟩)]) (.int .i64 3)).run Try.prog w = .ok (.agg #[.string ⟨#[101, 109, 112, 116, 121, 61]⟩, .pointer (some ⟨g, 3, none⟩)]) w := by
  simp [Instr.index, run_underlying Try.underlying63, asIntOf, go_sem]
theorem index4 (g : Nat) (w : World) : (Instr.index 63 (.agg #[.string ⟨#[105, 110, 100, 101, 110, 116, 61]⟩, .pointer (some ⟨g, 0, none⟩), .string ⟨#[119, 105, 100, 116, 104, 61]⟩, .pointer (some ⟨g, 1, none⟩), .string ⟨#[113, 117, 111, 116, 101, 61]⟩, .pointer (some ⟨g, 2, none⟩), .string ⟨#[101, 109, 112, 116, 121, 61]⟩, .pointer (some ⟨g, 3, none⟩), .string ⟨#[108, 105, 110, 101, 61]⟩, .pointer (some ⟨g, 4, none⟩)]) (.int .i64 4)).run Try.prog w = .ok (.agg #[.string ⟨#[108, 105, 110, 101, 61]⟩, .pointer (some ⟨g, 4, none⟩)]) w := by
  simp [Instr.index, run_underlying Try.underlying63, asIntOf, go_sem]
def keyS : Nat → ByteArray
  | 0 => ⟨#[105, 110, 100, 101, 110, 116, 61]⟩
  | 1 => ⟨#[119, 105, 100, 116, 104, 61]⟩
  | 2 => ⟨#[113, 117, 111, 116, 101, 61]⟩
  | 3 => ⟨#[101, 109, 112, 116, 121, 61]⟩
  | 4 => ⟨#[108, 105, 110, 101, 61]⟩
  | 5 => ⟨#[116, 97, 98, 115]⟩
  | _ => ⟨#[119, 114, 97, 112]⟩
def upd (c : Cf) (i : Nat) (n : Nat) : Cf := match i with
  | 0 => ⟨n, c.d, c.q, c.e, c.l, c.t, c.r⟩
  | 1 => ⟨c.i, n, c.q, c.e, c.l, c.t, c.r⟩
  | 2 => ⟨c.i, c.d, n, c.e, c.l, c.t, c.r⟩
  | 3 => ⟨c.i, c.d, c.q, n, c.l, c.t, c.r⟩
  | 4 => ⟨c.i, c.d, c.q, c.e, n, c.t, c.r⟩
  | 5 => ⟨c.i, c.d, c.q, c.e, c.l, true, c.r⟩
  | _ => ⟨c.i, c.d, c.q, c.e, c.l, c.t, true⟩
def restOf (i : Nat) (s : ByteArray) : List UInt8 := (s.extract (keyS i).size s.size).toList
/-- What a word says: the number of a field, and what it is worth; nothing, if it says nothing. -/
def setF (s : ByteArray) : Option (Nat × Nat) :=
  if s.toList == [116, 97, 98, 115] then some (5, 0) else if s.toList == [119, 114, 97, 112] then some (6, 0)
  else if preB (keyS 0) s then (cnumF (restOf 0 s)).map (fun n => (0, n))
  else if preB (keyS 1) s then (cnumF (restOf 1 s)).map (fun n => (1, n))
  else if preB (keyS 2) s then (cnumF (restOf 2 s)).map (fun n => (2, n))
  else if preB (keyS 3) s then (cnumF (restOf 3 s)).map (fun n => (3, n))
  else if preB (keyS 4) s then (cnumF (restOf 4 s)).map (fun n => (4, n))
  else none
theorem grown_setCell (w : World) (a : Addr) (u : Value) : w.grownBy (w.setCell a u) (some a.block) :=
  ⟨rfl, rfl, rfl, by simp, fun k _ hk => heap_setCell_other w a k u (fun e => hk (by rw [e]))⟩
theorem grown_kept {w w' : World} (h : Kept w w') (row : Option Nat) : w.grownBy w' row :=
  ⟨Below.os h, Below.tape h, Below.output h, Kept.size h, fun k hk _ => Below.block h k hk⟩
/-- What 'set' does and answers. -/
def SetOf (g : Nat) (c : Cf) (o : Option (Nat × Nat)) (w : World) (e : Ending) (w' : World) : Prop :=
  w.grownBy w' (some g) ∧ match o with
    | none => e = .returned (.string ⟨#[]⟩)
    | some x => e = .returned (.string (keyS x.1)) ∧ Blk w' g (upd c x.1 x.2).cells 23
theorem str_of {s : ByteArray} {l : List UInt8} (h : (s.toList == l) = true) : s = ⟨l.toArray⟩ := by
  rw [beq_iff_eq, ByteArray.toList_eq] at h
  exact ByteArray.ext (by rw [← h])
theorem setF_no {s : ByteArray} (h1 : (s.toList == [116, 97, 98, 115]) = false) (h2 : (s.toList == [119, 114, 97, 112]) = false) : setF s = (
  if preB (keyS 0) s then (cnumF (restOf 0 s)).map (fun n => (0, n))
  else if preB (keyS 1) s then (cnumF (restOf 1 s)).map (fun n => (1, n))
  else if preB (keyS 2) s then (cnumF (restOf 2 s)).map (fun n => (2, n))
  else if preB (keyS 3) s then (cnumF (restOf 3 s)).map (fun n => (3, n))
  else if preB (keyS 4) s then (cnumF (restOf 4 s)).map (fun n => (4, n))
  else none) := by
  unfold setF
  rw [h1, h2]
  rfl
set_option maxRecDepth 100000 in
set_option maxHeartbeats 16000000 in
theorem set_any (g : Nat) (c : Cf) (s : ByteArray) (w : World) (hb : Blk w g c.cells 23) (hs : s.size ≤ 1000000) :
    Calls Try.prog 25 #[.pointer (some ⟨g, 0, none⟩), .string s] w fun e w' => SetOf g c (setF s) w e w' := by
  have hgl := hb.lt
  cases h1 : (s.toList == [116, 97, 98, 115]) with
  | true =>
    have hS : setF s = some (5, 0) := by unfold setF; rw [h1]; rfl
    have hsd := str_of h1
    rw [hS]
    clear hS
    have HSD := Lib.hid hsd
    clear hsd
    have hc : ∀ i, w.cell? ⟨g, i, none⟩ = (#[.int .i64 c.i, .int .i64 c.d, .int .i64 c.q, .int .i64 c.e, .int .i64 c.l, .bool c.t, .bool c.r] : Array Value)[i]? := hb.cell
    have hfr := hb.frozen
    go_enter Try.func25, Try.ntmps25
    go_wp2_with fail
    go_ret
    exact ⟨grown_setCell w ⟨g, 5, none⟩ _, by rw [HSD.out]; rfl, hb.set 5 _⟩
  | false =>
  cases h2 : (s.toList == [119, 114, 97, 112]) with
  | true =>
    have hS : setF s = some (6, 0) := by unfold setF; rw [h1, h2]; rfl
    have hsd := str_of h2
    rw [hS]
    clear hS
    have HSD := Lib.hid hsd
    clear hsd
    have hc : ∀ i, w.cell? ⟨g, i, none⟩ = (#[.int .i64 c.i, .int .i64 c.d, .int .i64 c.q, .int .i64 c.e, .int .i64 c.l, .bool c.t, .bool c.r] : Array Value)[i]? := hb.cell
    have hfr := hb.frozen
    go_enter Try.func25, Try.ntmps25
    go_wp2_with fail
    go_ret
    exact ⟨grown_setCell w ⟨g, 6, none⟩ _, by rw [HSD.out]; rfl, hb.set 6 _⟩
  | false =>
  have hSF := setF_no h1 h2
  obtain ⟨Z, hZ⟩ : ∃ Z, setF s = Z := ⟨_, rfl⟩
  rw [hZ] at hSF ⊢
  have HSF := Lib.hid hSF
  clear hZ hSF
  have HF := Lib.hid (fields_any g c w hb)
  go_enter Try.func25, Try.ntmps25
  go_wp2_with fail
  refine HF.out.mono ?_
  rintro e w1 ⟨rfl, k1⟩
  clear HF
  go_wp2_with fail
  refine wp_loop_rounds 6 ?_
  rw [rounds_succ]
  have hix0 := index0 g w1
  go_upto_region 11 with fail
  have kb0 := k1.alloc (.cells #[.string ⟨#[105, 110, 100, 101, 110, 116, 61]⟩, .pointer (some ⟨g, 0, none⟩)] 62)
  have bx0 := Blk.new w1 #[.string ⟨#[105, 110, 100, 101, 110, 116, 61]⟩, .pointer (some ⟨g, 0, none⟩)] 62
  generalize w1.alloc (.cells #[.string ⟨#[105, 110, 100, 101, 110, 116, 61]⟩, .pointer (some ⟨g, 0, none⟩)] 62) = v0 at kb0 bx0 ⊢
  obtain ⟨p0, hp0⟩ : ∃ p, w1.heap.size = p := ⟨_, rfl⟩
  rw [hp0] at bx0 ⊢
  have hpp0 : w.heap.size ≤ p0 := by rw [← hp0]; exact Kept.size k1
  clear hp0
  have bc0 := bx0.cell
  have hcp0 := cutPre_any s ⟨#[105, 110, 100, 101, 110, 116, 61]⟩ v0
  obtain ⟨t0, ht0⟩ : ∃ t, preB ⟨#[105, 110, 100, 101, 110, 116, 61]⟩ s = t := ⟨_, rfl⟩
  rw [ht0] at hcp0
  have HT0 : Hid (preB (keyS 0) s = t0) := ht0
  have HC0 := Lib.hid hcp0
  clear ht0 hcp0
  cases t0
  rotate_left
  · go_wp2_with fail
    refine HC0.out.mono ?_
    rintro e w' ⟨rfl, rfl⟩
    have hnum := cnumber_any (s.extract 7 s.size) v0 (by rw [ByteArray.size_extract]; omega)
    have HZ : Hid (Z = (cnumF (s.extract 7 s.size).toList).map (fun n => (0, n))) := by
      have := HSF.out
      simp only [HT0.out] at this
      exact this
    obtain ⟨O, hO⟩ : ∃ O, cnumF (s.extract 7 s.size).toList = O := ⟨_, rfl⟩
    rw [hO] at hnum HZ
    have HNU := Lib.hid hnum
    clear hO hnum
    cases O with
    | none =>
      go_wp2_with fail
      refine HNU.out.mono ?_
      rintro e w2 ⟨rfl, k2⟩
      dsimp only [optV]
      go_wp2_with fail
      go_ret
      exact ⟨grown_kept (kb0.trans k2) _, by rw [HZ.out]; rfl⟩
    | some N =>
      go_wp2_with fail
      refine HNU.out.mono ?_
      rintro e w2 ⟨rfl, k2⟩
      have K2 := kb0.trans k2
      have hb2 := hb.kept K2
      have hbc : ∀ i, w2.cell? ⟨g, i, none⟩ = (#[.int .i64 c.i, .int .i64 c.d, .int .i64 c.q, .int .i64 c.e, .int .i64 c.l, .bool c.t, .bool c.r] : Array Value)[i]? := hb2.cell
      have hfr := hb2.frozen
      have hbl := hb2.lt
      have hpl := (bx0.kept k2).lt
      have bq := (bx0.kept k2).cell
      have hne : p0 ≠ g := by omega
      have bq2 := ((bx0.kept k2).far (p := ⟨g, 0, none⟩) hne (.int .i64 (N : Int))).cell
      dsimp only [optV]
      go_wp2_with fail
      go_ret
      refine ⟨(grown_kept K2 _).trans (grown_setCell w2 ⟨g, 0, none⟩ _), ?_⟩
      rw [HZ.out]
      exact ⟨rfl, hb2.set 0 _⟩
  go_wp2_with fail
  refine HC0.out.mono ?_
  rintro e w' ⟨rfl, rfl⟩
  go_wp2_with fail
  rw [rounds_succ]
  have hix1 := index1 g v0
  go_upto_region 11 with fail
  have kb1 := kb0.alloc (.cells #[.string ⟨#[119, 105, 100, 116, 104, 61]⟩, .pointer (some ⟨g, 1, none⟩)] 62)
  have bx1 := Blk.new v0 #[.string ⟨#[119, 105, 100, 116, 104, 61]⟩, .pointer (some ⟨g, 1, none⟩)] 62
  generalize v0.alloc (.cells #[.string ⟨#[119, 105, 100, 116, 104, 61]⟩, .pointer (some ⟨g, 1, none⟩)] 62) = v1 at kb1 bx1 ⊢
  obtain ⟨p1, hp1⟩ : ∃ p, v0.heap.size = p := ⟨_, rfl⟩
  rw [hp1] at bx1 ⊢
  have hpp1 : w.heap.size ≤ p1 := by rw [← hp1]; exact Kept.size kb0
  clear hp1
  have bc1 := bx1.cell
  have hcp1 := cutPre_any s ⟨#[119, 105, 100, 116, 104, 61]⟩ v1
  obtain ⟨t1, ht1⟩ : ∃ t, preB ⟨#[119, 105, 100, 116, 104, 61]⟩ s = t := ⟨_, rfl⟩
  rw [ht1] at hcp1
  have HT1 : Hid (preB (keyS 1) s = t1) := ht1
  have HC1 := Lib.hid hcp1
  clear ht1 hcp1
  cases t1
  rotate_left
  · go_wp2_with fail
    refine HC1.out.mono ?_
    rintro e w' ⟨rfl, rfl⟩
    have hnum := cnumber_any (s.extract 6 s.size) v1 (by rw [ByteArray.size_extract]; omega)
    have HZ : Hid (Z = (cnumF (s.extract 6 s.size).toList).map (fun n => (1, n))) := by
      have := HSF.out
      simp only [HT0.out, HT1.out] at this
      exact this
    obtain ⟨O, hO⟩ : ∃ O, cnumF (s.extract 6 s.size).toList = O := ⟨_, rfl⟩
    rw [hO] at hnum HZ
    have HNU := Lib.hid hnum
    clear hO hnum
    cases O with
    | none =>
      go_wp2_with fail
      refine HNU.out.mono ?_
      rintro e w2 ⟨rfl, k2⟩
      dsimp only [optV]
      go_wp2_with fail
      go_ret
      exact ⟨grown_kept (kb1.trans k2) _, by rw [HZ.out]; rfl⟩
    | some N =>
      go_wp2_with fail
      refine HNU.out.mono ?_
      rintro e w2 ⟨rfl, k2⟩
      have K2 := kb1.trans k2
      have hb2 := hb.kept K2
      have hbc : ∀ i, w2.cell? ⟨g, i, none⟩ = (#[.int .i64 c.i, .int .i64 c.d, .int .i64 c.q, .int .i64 c.e, .int .i64 c.l, .bool c.t, .bool c.r] : Array Value)[i]? := hb2.cell
      have hfr := hb2.frozen
      have hbl := hb2.lt
      have hpl := (bx1.kept k2).lt
      have bq := (bx1.kept k2).cell
      have hne : p1 ≠ g := by omega
      have bq2 := ((bx1.kept k2).far (p := ⟨g, 1, none⟩) hne (.int .i64 (N : Int))).cell
      dsimp only [optV]
      go_wp2_with fail
      go_ret
      refine ⟨(grown_kept K2 _).trans (grown_setCell w2 ⟨g, 1, none⟩ _), ?_⟩
      rw [HZ.out]
      exact ⟨rfl, hb2.set 1 _⟩
  go_wp2_with fail
  refine HC1.out.mono ?_
  rintro e w' ⟨rfl, rfl⟩
  go_wp2_with fail
  rw [rounds_succ]
  have hix2 := index2 g v1
  go_upto_region 11 with fail
  have kb2 := kb1.alloc (.cells #[.string ⟨#[113, 117, 111, 116, 101, 61]⟩, .pointer (some ⟨g, 2, none⟩)] 62)
  have bx2 := Blk.new v1 #[.string ⟨#[113, 117, 111, 116, 101, 61]⟩, .pointer (some ⟨g, 2, none⟩)] 62
  generalize v1.alloc (.cells #[.string ⟨#[113, 117, 111, 116, 101, 61]⟩, .pointer (some ⟨g, 2, none⟩)] 62) = v2 at kb2 bx2 ⊢
  obtain ⟨p2, hp2⟩ : ∃ p, v1.heap.size = p := ⟨_, rfl⟩
  rw [hp2] at bx2 ⊢
  have hpp2 : w.heap.size ≤ p2 := by rw [← hp2]; exact Kept.size kb1
  clear hp2
  have bc2 := bx2.cell
  have hcp2 := cutPre_any s ⟨#[113, 117, 111, 116, 101, 61]⟩ v2
  obtain ⟨t2, ht2⟩ : ∃ t, preB ⟨#[113, 117, 111, 116, 101, 61]⟩ s = t := ⟨_, rfl⟩
  rw [ht2] at hcp2
  have HT2 : Hid (preB (keyS 2) s = t2) := ht2
  have HC2 := Lib.hid hcp2
  clear ht2 hcp2
  cases t2
  rotate_left
  · go_wp2_with fail
    refine HC2.out.mono ?_
    rintro e w' ⟨rfl, rfl⟩
    have hnum := cnumber_any (s.extract 6 s.size) v2 (by rw [ByteArray.size_extract]; omega)
    have HZ : Hid (Z = (cnumF (s.extract 6 s.size).toList).map (fun n => (2, n))) := by
      have := HSF.out
      simp only [HT0.out, HT1.out, HT2.out] at this
      exact this
    obtain ⟨O, hO⟩ : ∃ O, cnumF (s.extract 6 s.size).toList = O := ⟨_, rfl⟩
    rw [hO] at hnum HZ
    have HNU := Lib.hid hnum
    clear hO hnum
    cases O with
    | none =>
      go_wp2_with fail
      refine HNU.out.mono ?_
      rintro e w2 ⟨rfl, k2⟩
      dsimp only [optV]
      go_wp2_with fail
      go_ret
      exact ⟨grown_kept (kb2.trans k2) _, by rw [HZ.out]; rfl⟩
    | some N =>
      go_wp2_with fail
      refine HNU.out.mono ?_
      rintro e w2 ⟨rfl, k2⟩
      have K2 := kb2.trans k2
      have hb2 := hb.kept K2
      have hbc : ∀ i, w2.cell? ⟨g, i, none⟩ = (#[.int .i64 c.i, .int .i64 c.d, .int .i64 c.q, .int .i64 c.e, .int .i64 c.l, .bool c.t, .bool c.r] : Array Value)[i]? := hb2.cell
      have hfr := hb2.frozen
      have hbl := hb2.lt
      have hpl := (bx2.kept k2).lt
      have bq := (bx2.kept k2).cell
      have hne : p2 ≠ g := by omega
      have bq2 := ((bx2.kept k2).far (p := ⟨g, 2, none⟩) hne (.int .i64 (N : Int))).cell
      dsimp only [optV]
      go_wp2_with fail
      go_ret
      refine ⟨(grown_kept K2 _).trans (grown_setCell w2 ⟨g, 2, none⟩ _), ?_⟩
      rw [HZ.out]
      exact ⟨rfl, hb2.set 2 _⟩
  go_wp2_with fail
  refine HC2.out.mono ?_
  rintro e w' ⟨rfl, rfl⟩
  go_wp2_with fail
  rw [rounds_succ]
  have hix3 := index3 g v2
  go_upto_region 11 with fail
  have kb3 := kb2.alloc (.cells #[.string ⟨#[101, 109, 112, 116, 121, 61]⟩, .pointer (some ⟨g, 3, none⟩)] 62)
  have bx3 := Blk.new v2 #[.string ⟨#[101, 109, 112, 116, 121, 61]⟩, .pointer (some ⟨g, 3, none⟩)] 62
  generalize v2.alloc (.cells #[.string ⟨#[101, 109, 112, 116, 121, 61]⟩, .pointer (some ⟨g, 3, none⟩)] 62) = v3 at kb3 bx3 ⊢
  obtain ⟨p3, hp3⟩ : ∃ p, v2.heap.size = p := ⟨_, rfl⟩
  rw [hp3] at bx3 ⊢
  have hpp3 : w.heap.size ≤ p3 := by rw [← hp3]; exact Kept.size kb2
  clear hp3
  have bc3 := bx3.cell
  have hcp3 := cutPre_any s ⟨#[101, 109, 112, 116, 121, 61]⟩ v3
  obtain ⟨t3, ht3⟩ : ∃ t, preB ⟨#[101, 109, 112, 116, 121, 61]⟩ s = t := ⟨_, rfl⟩
  rw [ht3] at hcp3
  have HT3 : Hid (preB (keyS 3) s = t3) := ht3
  have HC3 := Lib.hid hcp3
  clear ht3 hcp3
  cases t3
  rotate_left
  · go_wp2_with fail
    refine HC3.out.mono ?_
    rintro e w' ⟨rfl, rfl⟩
    have hnum := cnumber_any (s.extract 6 s.size) v3 (by rw [ByteArray.size_extract]; omega)
    have HZ : Hid (Z = (cnumF (s.extract 6 s.size).toList).map (fun n => (3, n))) := by
      have := HSF.out
      simp only [HT0.out, HT1.out, HT2.out, HT3.out] at this
      exact this
    obtain ⟨O, hO⟩ : ∃ O, cnumF (s.extract 6 s.size).toList = O := ⟨_, rfl⟩
    rw [hO] at hnum HZ
    have HNU := Lib.hid hnum
    clear hO hnum
    cases O with
    | none =>
      go_wp2_with fail
      refine HNU.out.mono ?_
      rintro e w2 ⟨rfl, k2⟩
      dsimp only [optV]
      go_wp2_with fail
      go_ret
      exact ⟨grown_kept (kb3.trans k2) _, by rw [HZ.out]; rfl⟩
    | some N =>
      go_wp2_with fail
      refine HNU.out.mono ?_
      rintro e w2 ⟨rfl, k2⟩
      have K2 := kb3.trans k2
      have hb2 := hb.kept K2
      have hbc : ∀ i, w2.cell? ⟨g, i, none⟩ = (#[.int .i64 c.i, .int .i64 c.d, .int .i64 c.q, .int .i64 c.e, .int .i64 c.l, .bool c.t, .bool c.r] : Array Value)[i]? := hb2.cell
      have hfr := hb2.frozen
      have hbl := hb2.lt
      have hpl := (bx3.kept k2).lt
      have bq := (bx3.kept k2).cell
      have hne : p3 ≠ g := by omega
      have bq2 := ((bx3.kept k2).far (p := ⟨g, 3, none⟩) hne (.int .i64 (N : Int))).cell
      dsimp only [optV]
      go_wp2_with fail
      go_ret
      refine ⟨(grown_kept K2 _).trans (grown_setCell w2 ⟨g, 3, none⟩ _), ?_⟩
      rw [HZ.out]
      exact ⟨rfl, hb2.set 3 _⟩
  go_wp2_with fail
  refine HC3.out.mono ?_
  rintro e w' ⟨rfl, rfl⟩
  go_wp2_with fail
  rw [rounds_succ]
  have hix4 := index4 g v3
  go_upto_region 11 with fail
  have kb4 := kb3.alloc (.cells #[.string ⟨#[108, 105, 110, 101, 61]⟩, .pointer (some ⟨g, 4, none⟩)] 62)
  have bx4 := Blk.new v3 #[.string ⟨#[108, 105, 110, 101, 61]⟩, .pointer (some ⟨g, 4, none⟩)] 62
  generalize v3.alloc (.cells #[.string ⟨#[108, 105, 110, 101, 61]⟩, .pointer (some ⟨g, 4, none⟩)] 62) = v4 at kb4 bx4 ⊢
  obtain ⟨p4, hp4⟩ : ∃ p, v3.heap.size = p := ⟨_, rfl⟩
  rw [hp4] at bx4 ⊢
  have hpp4 : w.heap.size ≤ p4 := by rw [← hp4]; exact Kept.size kb3
  clear hp4
  have bc4 := bx4.cell
  have hcp4 := cutPre_any s ⟨#[108, 105, 110, 101, 61]⟩ v4
  obtain ⟨t4, ht4⟩ : ∃ t, preB ⟨#[108, 105, 110, 101, 61]⟩ s = t := ⟨_, rfl⟩
  rw [ht4] at hcp4
  have HT4 : Hid (preB (keyS 4) s = t4) := ht4
  have HC4 := Lib.hid hcp4
  clear ht4 hcp4
  cases t4
  rotate_left
  · go_wp2_with fail
    refine HC4.out.mono ?_
    rintro e w' ⟨rfl, rfl⟩
    have hnum := cnumber_any (s.extract 5 s.size) v4 (by rw [ByteArray.size_extract]; omega)
    have HZ : Hid (Z = (cnumF (s.extract 5 s.size).toList).map (fun n => (4, n))) := by
      have := HSF.out
      simp only [HT0.out, HT1.out, HT2.out, HT3.out, HT4.out] at this
      exact this
    obtain ⟨O, hO⟩ : ∃ O, cnumF (s.extract 5 s.size).toList = O := ⟨_, rfl⟩
    rw [hO] at hnum HZ
    have HNU := Lib.hid hnum
    clear hO hnum
    cases O with
    | none =>
      go_wp2_with fail
      refine HNU.out.mono ?_
      rintro e w2 ⟨rfl, k2⟩
      dsimp only [optV]
      go_wp2_with fail
      go_ret
      exact ⟨grown_kept (kb4.trans k2) _, by rw [HZ.out]; rfl⟩
    | some N =>
      go_wp2_with fail
      refine HNU.out.mono ?_
      rintro e w2 ⟨rfl, k2⟩
      have K2 := kb4.trans k2
      have hb2 := hb.kept K2
      have hbc : ∀ i, w2.cell? ⟨g, i, none⟩ = (#[.int .i64 c.i, .int .i64 c.d, .int .i64 c.q, .int .i64 c.e, .int .i64 c.l, .bool c.t, .bool c.r] : Array Value)[i]? := hb2.cell
      have hfr := hb2.frozen
      have hbl := hb2.lt
      have hpl := (bx4.kept k2).lt
      have bq := (bx4.kept k2).cell
      have hne : p4 ≠ g := by omega
      have bq2 := ((bx4.kept k2).far (p := ⟨g, 4, none⟩) hne (.int .i64 (N : Int))).cell
      dsimp only [optV]
      go_wp2_with fail
      go_ret
      refine ⟨(grown_kept K2 _).trans (grown_setCell w2 ⟨g, 4, none⟩ _), ?_⟩
      rw [HZ.out]
      exact ⟨rfl, hb2.set 4 _⟩
  go_wp2_with fail
  refine HC4.out.mono ?_
  rintro e w' ⟨rfl, rfl⟩
  go_wp2_with fail
  rw [rounds_succ]
  go_wp2_with fail
  go_ret
  have HZ : Z = none := by
    have := HSF.out
    simp only [HT0.out, HT1.out, HT2.out, HT3.out, HT4.out] at this
    exact this
  rw [HZ]
  exact ⟨grown_kept kb4 _, rfl⟩
end Go.Proofs.Ytmicmmbdkmmnoaa
