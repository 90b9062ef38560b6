/- What stands ahead of a line: slices.Repeat, both Pads, walked. -/
import Derived.Test.YtmicmmbdkmmnoaaConT
import Derived.Laws.Bits64b
import Derived.Laws.MakeOwn
import Derived.Laws.CopyOwn
import Derived.Deep.OwnRows
import Derived.Laws.OwnMore
namespace Go.Proofs.Ytmicmmbdkmmnoaa
open Go.RowKit
attribute [local go_sem ↓] Go.wp_at_zero Go.wp_at_succ

theorem maskN (a : Nat) (ha : a < 4294967296) : bits .and .u64 (a : Int) 4294967295 = (a : Int) := by
  have h := bits_and_u64_nat a 4294967295 (by omega) (by omega)
  have e : a &&& 4294967295 = a % 4294967296 := Nat.and_two_pow_sub_one_eq_mod a 32
  rw [e, Nat.mod_eq_of_lt ha] at h
  exact h
theorem mul64_any (n : Nat) (hn : n ≤ 1000000) (w : World) : Calls Try.prog 59 #[.int .u64 1, .int .u64 (n : Int)] w fun e w' => e = .returned (.tuple #[.int .u64 0, .int .u64 (n : Int)]) ∧ Kept w w' := by
  have e1 : bits .and .u64 1 4294967295 = 1 := maskN 1 (by omega)
  have e0 : bits .and .u64 0 4294967295 = 0 := maskN 0 (by omega)
  have e2 := maskN n (by omega)
  have e3 : (n : Int) / 4294967296 = 0 := by omega
  have e4 : IntKind.u64.wrap (n : Int) = (n : Int) := IntWalk.u64_in _ (by omega)
  have e5 : IntKind.u64.wrap 0 = 0 := rfl
  go_enter Try.func59, Try.ntmps59
  go_wp2_with fail
  go_ret2
  exact ⟨rfl, Kept.refl _⟩
theorem mul_any (n : Nat) (hn : n ≤ 1000000) (w : World) : Calls Try.prog 48 #[.int .u64 1, .int .u64 (n : Int)] w fun e w' => e = .returned (.tuple #[.int .u64 0, .int .u64 (n : Int)]) ∧ Kept w w' := by
  go_enter Try.func48, Try.ntmps48
  go_wp2_with fail
  refine (mul64_any n hn _).mono ?_
  rintro e w2 ⟨rfl, k2⟩
  go_wp2_with fail
  go_ret2
  exact ⟨rfl, k2⟩
theorem run_copy_splice {P : Program} {w : World} (dT sT ty elem : TypeId) (hu : P.underlying dT = some (.slice elem)) (hsz : (P.info? elem).map (·.size) = some 1)
    (dp sp : Option Addr) (dLen dCap sLen sCap g off : Nat) (cur : List Value) (t : TypeId) (hg : w.heap[g]? = some (.cells cur.toArray t (0, 0))) (cs : List Value) (hn : cs.length = Nat.min sLen dLen)
    (hpos : 0 < cs.length → dp = some ⟨g, off, none⟩ ∧ ∃ ad, sp = some ad ∧ ∀ j v, cs[j]? = some v → w.cell? (ad.add j) = some v)
    (hfit : off + cs.length ≤ cur.length) (h1 : ∀ v ∈ cs, v.oneCell' = true) (w0 : World) (hb : Kept w0 w) (hBg : w0.heap.size ≤ g) :
    ∃ w', (Builtin.copy_ #[dT, sT] ty #[.slice dp dLen dCap, .slice sp sLen sCap]).run P w = .ok (.int .i64 (cs.length : Int)) w' ∧ Blk w' g (splice cur off cs).toArray t ∧ Kept w0 w' := by
  by_cases h0 : cs.length = 0
  · obtain rfl : cs = [] := List.eq_nil_of_length_eq_zero h0
    exact ⟨w, run_copy_none (P := P) w dT sT ty elem dp sp dLen dCap sLen sCap hu hsz (by simpa using hn.symm), by simpa [splice, Blk] using hg, hb⟩
  · obtain ⟨rfl, ad, rfl, hsrc⟩ := hpos (by omega)
    refine ⟨_, run_copy_row (P := P) w dT sT ty elem g off dLen dCap ad sLen sCap cur.toArray t cs hu hsz hg hn hsrc (by simpa using hfit) h1, ?_, below_setRow hb hBg _⟩
    have hlt : g < w.heap.size := (Array.getElem?_eq_some_iff.1 hg).1
    have hv : w.heap[g] = .cells cur.toArray t (0, 0) := (Array.getElem?_eq_some_iff.1 hg).2
    unfold Blk World.setRow splice
    simp [hlt, Array.getElem_modify, hv]
/-- 'copy(d, s)' in a region that draws its order. -/
theorem step_copy {P : Program} {ops : Array Oper} {o : Oper} {a : Act} {w : World} {K : Act → World → Prop} {Q : Exit → Act → World → Prop} {E : Prop} (hgd : o.guard = none) (d s : Operand) (dT sT : TypeId)
    (ho : o.op = .call { callee := .builtin .copy, args := #[d, s], argTypes := #[dT, sT] }) {v u : Value} (hd : a.eval d = v) (hs : a.eval s = u) {r : Value} {w' : World}
    (hr : ∀ ty, (Builtin.copy_ #[dT, sT] ty #[v, u]).run P w = .ok r w') (h : K (a.put o.dst r) w') :
    if Region.wanted o (yielded ops a.tmps) = true then Oper.wp P o a w K Q else E := by
  have hw : Region.wanted o (yielded ops a.tmps) = true := by simp [Region.wanted, hgd]
  rw [if_pos hw]
  unfold Oper.wp execOp
  simp only [ho, resolve, invoke, builtin, Sem.run_bind, Sem.run_pure, Result.andThen_ok, List.map_toArray, List.map_cons, List.map_nil, hd, hs, hr]
  exact h
theorem wpList_copyr {P : Program} {w : World} {ops : Array Oper} {rest : List Oper} {o : Oper} {a : Act} {Q : Exit → Act → World → Prop} (hgd : o.guard = none) (d s : Operand) (dT sT : TypeId)
    (ho : o.op = .call { callee := .builtin .copy, args := #[d, s], argTypes := #[dT, sT] }) {v u : Value} (hd : a.eval d = v) (hs : a.eval s = u) {r : Value} {w' : World}
    (hr : ∀ ty, (Builtin.copy_ #[dT, sT] ty #[v, u]).run P w = .ok r w') (h : wpList P ops Q rest (a.put o.dst r) w') : wpList P ops Q (o :: rest) a w := by
  refine wpList_plain hgd fun K hK => ?_
  unfold Oper.wp execOp
  simp only [ho, resolve, invoke, builtin, Sem.run_bind, Sem.run_pure, Result.andThen_ok, List.map_toArray, List.map_cons, List.map_nil, hd, hs, hr]
  exact hK _ _ h
theorem splice_rep {α : Type} (a b : α) (k m j : Nat) (_ : j ≤ m) : splice (List.replicate k a ++ List.replicate m b) k (List.replicate j a) = List.replicate (k + j) a ++ List.replicate (m - j) b := by
  unfold splice
  rw [List.take_left' (by simp), List.length_replicate, ← List.drop_drop, List.drop_left' (by simp), List.drop_replicate, ← List.append_assoc, List.replicate_append_replicate]
/-- The row of Repeat, k of N filled. -/
def repRow (r : Int) (k N : Nat) : List Value := List.replicate k (Value.int .i32 r) ++ List.replicate (N - k) (Value.int .i32 0)
theorem repRow_len (r : Int) (k N : Nat) (h : k ≤ N) : (repRow r k N).length = N := by
  unfold repRow
  simp
  omega
theorem repRow_get {r : Int} {k N j : Nat} (h : j < k) : (repRow r k N)[j]? = some (Value.int .i32 r) := by
  unfold repRow
  rw [List.getElem?_append_left (by simpa using h), List.getElem?_replicate, if_pos h]
theorem repRow_splice (r : Int) (k N j : Nat) (h : k + j ≤ N) : splice (repRow r k N) k (List.replicate j (Value.int .i32 r)) = repRow r (k + j) N := by
  unfold repRow
  rw [splice_rep _ _ _ _ _ (by omega), Nat.sub_sub]
set_option maxHeartbeats 4000000 in
theorem repeat_any (A : Option Addr) (c : Nat) (r : Int) (n : Nat) (hn : n ≤ 100000) (w : World) (h : Sl w 1 A 1 c [Value.int .i32 r]) :
    Calls Try.prog 31 #[.slice A 1 c, .int .i64 (n : Int)] w fun e w' => ∃ A' c', e = .returned (.slice A' n c') ∧ Sl w' 1 A' n c' ((List.replicate n r).map (Value.int .i32)) ∧ Kept w w' := by
  have e1 : IntKind.u64.wrap (n : Int) = (n : Int) := IntWalk.u64_in _ (by omega)
  have e2 : IntKind.i64.wrap (n : Int) = (n : Int) := IntWalk.i64_in _ (by omega)
  have e3 : ¬ (n : Int) < 0 := by omega
  have e4 : ¬ (9223372036854775807 : Int) < n := by omega
  have e5 : IntKind.u64.wrap 1 = 1 := rfl
  go_enter Try.func31, Try.ntmps31
  go_wp2_with fail
  refine (mul_any n (by omega) _).mono ?_
  rintro e w2 ⟨rfl, k2⟩
  have hmk := fun (ww : World) => run_make_row' (P := Try.prog) 36 21 (.int .i32 0) 4 Try.underlying36 (by kernel_rfl) rfl .i64 .i64 n (by omega) (by omega) ww
  go_upto_region 7 with fail
  have b3 := Blk.new w2 (madeCells #[.int .i32 0] n) 21
  have k3 := k2.alloc (.cells (madeCells #[.int .i32 0] n) 21)
  obtain ⟨g, hg⟩ : ∃ g, w2.heap.size = g := ⟨_, rfl⟩
  have hWg : w.heap.size ≤ g := by
    rw [← hg]
    exact k2.size
  rw [hg] at b3 ⊢
  generalize w2.alloc (.cells (madeCells #[.int .i32 0] n) 21) = w3 at b3 k3 ⊢
  have hcur : madeCells #[.int .i32 0] n = (repRow r 0 n).toArray := by
    apply Array.ext'
    rw [toList_madeCells_one]
    simp [repRow]
  rw [hcur] at b3
  have hsz : (Try.prog.info? 21).map (·.size) = some 1 := by kernel_rfl
  have HSZ := Lib.hid hsz
  obtain ⟨k, hk, hk0, hkn, hk1⟩ : ∃ k, k = Nat.min 1 n ∧ (k = 0 → n = 0) ∧ k ≤ n ∧ k ≤ 1 := by
    refine ⟨Nat.min 1 n, rfl, ?_, Nat.min_le_right 1 n, Nat.min_le_left 1 n⟩
    intro hh
    have h2 : min 1 n = 0 := hh
    omega
  obtain ⟨w4, hrun4, b4, k4⟩ := run_copy_splice (P := Try.prog) (w := w3) 36 36 3 21 Try.underlying36 HSZ.out (some ⟨g, 0, none⟩) A n n 1 c g 0 (repRow r 0 n) 21 b3 (List.replicate k (Value.int .i32 r)) (by rw [List.length_replicate]; exact hk)
    (fun _ => ⟨rfl, by
      obtain ⟨b, o, rfl, hc⟩ := (h.kept k3).at_ (by omega)
      refine ⟨_, rfl, fun j v hj => ?_⟩
      rw [Addr.add_lit]
      rw [List.getElem?_replicate] at hj
      split at hj
      · have hj := Option.some.inj hj
        subst hj
        exact hc j _ (by rw [show j = 0 by omega]; rfl)
      · cases hj⟩) (by rw [repRow_len _ _ _ (Nat.zero_le _), List.length_replicate]; omega) (by simp [Value.oneCell']) w k3 hWg
  rw [List.length_replicate] at hrun4
  rw [repRow_splice _ _ _ _ (by omega), Nat.zero_add] at b4
  clear hcur b3 k3 hmk hk hsz h k2
  go_upto_region 8 with (at_builtin; refine wpList_copyr (by rfl) _ _ _ _ (by rfl) (by rfl) (by rfl) (fun _ => hrun4) ?_)
  clear hrun4
  go_loopw [8] (fun i wr => ∃ m : Nat, m ≤ n ∧ (m = 0 → n = 0) ∧ i = .int .i64 m ∧ Blk wr g (repRow r m n).toArray 21 ∧ Kept w wr) (fun i _ => n - (intOf i).toNat)
  case atStart => exact ⟨k, hkn, hk0, rfl, b4, k4⟩
  case round =>
    clear b4 k4
    obtain ⟨m, hm, hm0, rfl, bm, km⟩ := hrel
    by_cases hlt : m < n
    · have l1 : (m : Int) < n := by omega
      have hcutA : ∀ wv : World, (Instr.slice 36 (.slice (some ⟨g, 0, none⟩) n n) (some (.int .i64 (m : Int))) none none).run Try.prog wv = .ok (.slice (some ⟨g, m, none⟩) (n - m) (n - m)) wv := by
        intro wv
        have h1 := run_cut_l appT_run (some ⟨g, 0, none⟩) n n m (by omega) wv
        have e : cutA (some ⟨g, 0, none⟩) n m 1 = some ⟨g, m, none⟩ := by
          unfold cutA
          rw [if_neg (by omega)]
          show some ((⟨g, 0, none⟩ : Addr).add (m * 1)) = _
          rw [Addr.add_lit, Nat.mul_one, Nat.zero_add]
        rw [e] at h1
        exact h1
      have hcutB : ∀ wv : World, (Instr.slice 36 (.slice (some ⟨g, 0, none⟩) n n) none (some (.int .i64 (m : Int))) none).run Try.prog wv = .ok (.slice (some ⟨g, 0, none⟩) m n) wv := run_cut_h appT_run (some ⟨g, 0, none⟩) n n m (by omega)
      obtain ⟨j, hj, hj1, hj2, hjm⟩ : ∃ j, j = Nat.min m (n - m) ∧ 0 < j ∧ m + j ≤ n ∧ j ≤ m := by
        refine ⟨Nat.min m (n - m), rfl, ?_, ?_, Nat.min_le_left _ _⟩
        · show 0 < min m (n - m)
          omega
        · show m + min m (n - m) ≤ n
          omega
      have bmd : Blk wr.drew g (repRow r m n).toArray 21 := bm.drew
      obtain ⟨w5, hrun5, b5, k5⟩ := run_copy_splice (P := Try.prog) (w := wr.drew) 36 36 3 21 Try.underlying36 HSZ.out (some ⟨g, m, none⟩) (some ⟨g, 0, none⟩) (n - m) (n - m) m n g m (repRow r m n) 21 bmd (List.replicate j (Value.int .i32 r)) (by rw [List.length_replicate]; exact hj)
        (fun _ => ⟨rfl, ⟨g, 0, none⟩, rfl, fun q v hq => by
          rw [Addr.add_lit]
          rw [List.getElem?_replicate] at hq
          split at hq
          · have hq := Option.some.inj hq
            subst hq
            rw [bmd.cell, List.getElem?_toArray, Nat.zero_add]
            exact repRow_get (by omega)
          · cases hq⟩) (by rw [repRow_len _ _ _ hm, List.length_replicate]; omega) (by simp [Value.oneCell']) w km.drew hWg
      rw [List.length_replicate] at hrun5
      rw [repRow_splice _ _ _ _ hj2] at b5
      have hrun5' : ∀ ty, (Builtin.copy_ #[36, 36] ty #[.slice (some ⟨g, m, none⟩) (n - m) (n - m), .slice (some ⟨g, 0, none⟩) m n]).run Try.prog wr.drew = .ok (.int .i64 (j : Int)) w5 := fun _ => hrun5
      have hsum : IntKind.i64.wrap ((m : Int) + j) = (m : Int) + j := IntWalk.i64_in _ (by omega)
      have mn : (m : Int) ≤ n := by omega
      clear hj bmd hrun5
      go_upto_region 9 with fail
      go_region_held3 (fun _ => True) (first | exact trivial)
        (first
        | (refine step_copy (by rfl) _ _ _ _ (by rfl) (by rfl) (by rfl) hrun5' ?_))
      go_wp2_with fail
      go_roundw
      case rel => exact ⟨m + j, hj2, fun hh => absurd hh (by omega), by simp, b5, k5⟩
      case measure =>
        simp [intOf]
        omega
    · obtain rfl : m = n := by omega
      have hS : Sl wr 1 (some ⟨g, 0, none⟩) m m ((List.replicate m r).map (Value.int .i32)) := by
        refine ⟨by simp, Nat.le_refl _, by simp [maxLen]; omega, fun _ => ⟨g, 0, rfl, fun j u hu => ?_⟩⟩
        rw [bm.cell, List.getElem?_toArray, Nat.zero_add]
        rw [List.map_replicate] at hu
        have hj : j < m := by simpa using (List.getElem?_eq_some_iff.1 hu).1
        rw [List.getElem?_replicate, if_pos hj] at hu
        rw [repRow_get hj]
        exact hu
      go_wp2_with fail
      go_ret
      exact ⟨_, _, rfl, hS, km⟩
end Go.Proofs.Ytmicmmbdkmmnoaa
