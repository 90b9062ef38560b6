/- Layer 14: Pieces: walked. -/
import Derived.Test.YtmicmmbdkmmnoaaRefsC
import Derived.Test.YtmicmmbdkmmnoaaRefsQ
import Derived.OneCell
namespace Go.Proofs.Ytmicmmbdkmmnoaa
open Go.RowKit
attribute [local go_sem ↓] Go.wp_at_zero Go.wp_at_succ

theorem own_far {w : World} {base : Nat} {e : TypeId} {size n : Nat} {v : Value} {xs : List Value} (h : w.ownsRow base e size v n xs) {p : Addr} (_ : p.spot = none) (hne : v.ownBlock ≠ some p.block) (u : Value) : (w.setCell p u).ownsRow base e size v n xs :=
  ownsRow_setCell_other h hne u
/-- A block of five cells, stored whole. -/
theorem Blk.over5 {w : World} {b : Nat} {t : TypeId} {z0 z1 z2 z3 z4 : Value} (h : Blk w b #[z0, z1, z2, z3, z4] t) (v0 v1 v2 v3 v4 : Value) : Blk (((((w.setCell ⟨b, 0, none⟩ v0).setCell ⟨b, 1, none⟩ v1).setCell ⟨b, 2, none⟩ v2).setCell ⟨b, 3, none⟩ v3).setCell ⟨b, 4, none⟩ v4) b #[v0, v1, v2, v3, v4] t := by
  have h := ((((h.set 0 v0).set 1 v1).set 2 v2).set 3 v3).set 4 v4
  simp only [List.setIfInBounds_toArray, List.set_cons_zero, List.set_cons_succ] at h
  exact h
/-- Pieces with their places. -/
def posL : Nat → List Pc → List (Pc × Nat)
  | _, [] => []
  | a, p :: ps => (p, a) :: posL (a + p.len) ps
def pcE (x : Pc × Nat) : List Value := pcC x.1 x.2
/-- The pieces from a place on. -/
def pcsX (l : List Int) (a : Nat) : List (Pc × Nat) := posL a (pcsF (l.drop a))
theorem pcsX_cons {l : List Int} {a : Nat} (h : a < l.length) : pcsX l a = (pieceF (l.drop a), a) :: pcsX l (a + (pieceF (l.drop a)).len) := by
  have hne : l.drop a ≠ [] := by
    intro e
    have := congrArg List.length e
    rw [List.length_drop, List.length_nil] at this
    omega
  unfold pcsX
  rw [pcsF_cons hne, posL, List.drop_drop]
theorem pcsX_end {l : List Int} {a : Nat} (h : ¬ a < l.length) : pcsX l a = [] := by
  unfold pcsX
  rw [List.drop_eq_nil_of_le (by omega)]
  rfl
theorem pieceF_le {s : List Int} (h : s ≠ []) : (pieceF s).len ≤ s.length := by
  have h1 := refT_le h
  have h0 : 0 < s.length := List.length_pos_iff.2 h
  have h2 := runF_le (fun x => x != 38) s
  unfold pieceF
  split
  · (repeat' split) <;> dsimp only <;> omega
  · exact h2
theorem amp_any (x : Int) (w : World) : Calls Try.prog 54 #[.int .i32 x] w fun e w' => e = .returned (.bool (x != 38)) ∧ Kept w w' := by
  go_enter Try.func54, Try.ntmps54
  go_wp2_with fail
  go_ret
  exact ⟨rfl, Kept.refl _⟩
theorem appT_pc : AppT Try.prog 70 73 5 := appT_mk (z := .agg #[.int .i64 0, .int .i64 0, .int .i64 0, .int .i32 0, .string ⟨#[]⟩]) (bytes := 48) Try.underlying70 (by kernel_rfl) rfl (by omega) (by omega)
set_option maxHeartbeats 4000000 in
theorem pieces_any (A : Option Addr) (n c : Nat) (l : List Int) (w : World) (h : Sl w 1 A n c (l.map (Value.int .i32))) (hn : n ≤ 1000000) :
    Calls Try.prog 39 #[.slice A n c] w fun e w' => ∃ VA VC, e = .returned (.slice VA (pcsX l 0).length VC) ∧ Sl w' 5 VA (pcsX l 0).length VC ((pcsX l 0).flatMap pcE) ∧ Kept w w' := by
  have hcap := h.cap
  have hmax := h.max
  have HL := Lib.hid h.llen1
  go_enter Try.func39, Try.ntmps39
  go_wp2_with fail
  go_loopw [3, 4] (fun v u wr => ∃ (a : Nat) (D : List (Pc × Nat)) (VA : Option Addr) (VC : Nat), a ≤ n ∧ u = .int .i64 a ∧ v = .slice VA D.length VC ∧ D.length ≤ a ∧ wr.ownsRow w.heap.size 73 5 (.slice VA D.length VC) D.length (D.flatMap pcE) ∧ Kept w wr ∧ Hid (pcsX l 0 = D ++ pcsX l a))
    (fun _ u _ => n - (intOf u).toNat)
  case atStart => exact ⟨0, [], none, 0, Nat.zero_le _, rfl, rfl, Nat.le_refl _, World.ownsRow_nil _ _ _ _, Kept.refl _, rfl⟩
  case round =>
    obtain ⟨a, D, VA, VC, han, rfl, rfl, hD, hown, hk, hinv⟩ := hrel
    by_cases hp : a < n
    · obtain ⟨b, o, x, rfl, hx, hcx, hb⟩ := (h.kept hk).oneb (k := a) hp
      have l0 : (0 : Int) ≤ a := by omega
      have l1 : (a : Int) < n := by omega
      have hc := Lib.hid (pcsX_cons (l := l) (a := a) (by have := HL.out; omega))
      have hne : l.drop a ≠ [] := by
        intro e
        have := congrArg List.length e
        rw [List.length_drop, List.length_nil] at this
        have := HL.out
        omega
      have hp1 := pieceF_len hne
      have hp2 := pieceF_le hne
      rw [List.length_drop, HL.out] at hp2
      have hrle := runF_le (fun x => x != 38) (l.drop a)
      rw [List.length_drop, HL.out] at hrle
      have hrun := run_any 54 (fun x => x != 38) (enters Try.func54 (by kernel_rfl) (by kernel_rfl)) amp_any _ n c l a wr (h.kept hk) (by omega)
      have h0x : (l.drop a)[0]? = some x := by rw [List.getElem?_drop, Nat.add_zero]; exact hx
      by_cases hx38 : x = 38
      · subst hx38
        have hpa := fun w' (hk' : Kept wr w') => piece_any _ n c l a w' ((h.kept hk).kept hk') hn hp hx
        obtain ⟨P, hP⟩ : ∃ P, pieceF (l.drop a) = P := ⟨_, rfl⟩
        rw [hP] at hc hp1 hp2 hpa
        obtain ⟨R, hR⟩ : ∃ R, runF (fun x => x != 38) (l.drop a) = R := ⟨_, rfl⟩
        rw [hR] at hrun hrle
        have wa : IntKind.i64.wrap ((a : Int) + R) = (a : Int) + R := IntWalk.i64_in _ (by omega)
        have HPA := Lib.hid hpa
        clear hpa hP hR hx h0x hne
        go_wp2_with fail
        refine hrun.mono ?_
        rintro e w1 ⟨rfl, k1⟩
        have hk1 := hk.trans k1
        have hown1 := own_kept hown k1
        have hc1 := k1.cell hcx
        have hca := fun ob => ((Kept.refl w1).alloc ob).cell hc1
        clear hown hrun
        go_wp2_with fail
        refine (HPA.out _ (k1.alloc _)).mono ?_
        rintro e w2 ⟨rfl, k2⟩
        have B2 := (Blk.new w1 #[.int .i64 1, .int .i64 a, .int .i64 ((a : Int) + R), .int .i32 0, .string ⟨#[]⟩] 73).kept k2
        have hk2 := (hk1.alloc (.cells #[.int .i64 1, .int .i64 a, .int .i64 ((a : Int) + R), .int .i32 0, .string ⟨#[]⟩] 73)).trans k2
        have hown2 := own_kept (hown1.alloc (.cells #[.int .i64 1, .int .i64 a, .int .i64 ((a : Int) + R), .int .i32 0, .string ⟨#[]⟩] 73)) k2
        have f9 := B2.cell
        have g9 := B2.frozen
        have hlt2 := B2.lt
        have hvb : (Value.slice VA D.length VC).ownBlock ≠ some w1.heap.size := by
          intro e
          have := hown1.lt _ e
          omega
        have B3 := B2.over5 (.int .i64 P.kind) (.int .i64 a) (.int .i64 ((a : Int) + P.len)) (.int .i32 P.r) (.string P.name)
        have hle1 := hk1.size
        unfold pcC
        clear hown1 k2 k1
        go_upto_region 7 with fail
        have hown3 : (((((w2.setCell ⟨w1.heap.size, 0, none⟩ (.int .i64 P.kind)).setCell ⟨w1.heap.size, 1, none⟩ (.int .i64 a)).setCell ⟨w1.heap.size, 2, none⟩ (.int .i64 ((a : Int) + P.len))).setCell ⟨w1.heap.size, 3, none⟩ (.int .i32 P.r)).setCell ⟨w1.heap.size, 4, none⟩ (.string P.name)).ownsRow w.heap.size 73 5 (.slice VA D.length VC) D.length (D.flatMap pcE) := by
          repeat (first | (with_reducible exact hown2) | (with_reducible refine own_far ?_ rfl hvb _))
        have hk3 : Kept w (((((w2.setCell ⟨w1.heap.size, 0, none⟩ (.int .i64 P.kind)).setCell ⟨w1.heap.size, 1, none⟩ (.int .i64 a)).setCell ⟨w1.heap.size, 2, none⟩ (.int .i64 ((a : Int) + P.len))).setCell ⟨w1.heap.size, 3, none⟩ (.int .i32 P.r)).setCell ⟨w1.heap.size, 4, none⟩ (.string P.name)) := by
          repeat (first | (with_reducible exact hk2) | (with_reducible refine Kept.setCell ?_ hle1 _))
        generalize (((((w2.setCell ⟨w1.heap.size, 0, none⟩ (.int .i64 P.kind)).setCell ⟨w1.heap.size, 1, none⟩ (.int .i64 a)).setCell ⟨w1.heap.size, 2, none⟩ (.int .i64 ((a : Int) + P.len))).setCell ⟨w1.heap.size, 3, none⟩ (.int .i32 P.r)).setCell ⟨w1.heap.size, 4, none⟩ (.string P.name)) = w3 at B3 hown3 hk3 ⊢
        clear f9 g9 B2 hown2 hk2
        have f9 := B3.cell
        have hsz := hk3.size
        go_wp2_with (at_builtin; refine wpList_app (by rfl) _ _ (by rfl) appT_pc (by rfl) (hown3.alloc _) (by rfl) (Sl.litg (by rfl) ?_ (by omega)) ?_ ?_ ?_ ?_; (exact rfl); (exact rfl); (omega); (simp; omega); (intro v' w' hown' hgr hob; obtain ⟨VA', VC', rfl, hVs⟩ := own_sl hown'; have B4 := (B3.alloc _).grown hgr (fun e => hvb e.symm); have f10 := B4.cell))
        have hk4 : Kept w w' := (hk3.alloc _).grown hgr (fun k e => by have := hown3.lt k e; omega)
        clear hown3 hgr hob hVs B3 B4 f9 f10
        go_roundw
        case rel =>
          have hl1 : (D ++ [(P, a)]).length = D.length + 1 := by simp
          refine ⟨a + P.len, D ++ [(P, a)], VA', VC', by omega, by simp, by rw [hl1], by rw [hl1]; omega, ?_, hk4, ?_⟩
          · rw [hl1, List.flatMap_append]
            simpa [pcE, pcC] using hown'
          · unfold Hid
            rw [hinv.out, hc.out]
            simp
        case measure =>
          simp [intOf]
          omega
      · have hpf : pieceF (l.drop a) = ⟨1, runF (fun x => x != 38) (l.drop a), 0, ⟨#[]⟩⟩ := by
          unfold pieceF
          rw [if_neg (by rw [h0x]; simpa using hx38)]
        have d38 : (x == 38) = false := by simpa using hx38
        rw [hpf] at hc hp1 hp2
        dsimp only at hc hp1 hp2
        obtain ⟨R, hR⟩ : ∃ R, runF (fun x => x != 38) (l.drop a) = R := ⟨_, rfl⟩
        rw [hR] at hrun hrle hc hp1 hp2
        have wa : IntKind.i64.wrap ((a : Int) + R) = (a : Int) + R := IntWalk.i64_in _ (by omega)
        clear hpf hR hx h0x hne hx38
        go_wp2_with fail
        refine hrun.mono ?_
        rintro e w1 ⟨rfl, k1⟩
        have hk1 := hk.trans k1
        have hown1 := own_kept hown k1
        have hc1 := k1.cell hcx
        have hca := fun ob => ((Kept.refl w1).alloc ob).cell hc1
        have hvb : (Value.slice VA D.length VC).ownBlock ≠ some w1.heap.size := by
          intro e
          have := hown1.lt _ e
          omega
        have hle1 := hk1.size
        clear hown hrun k1
        go_upto_region 7 with fail
        have B3 := Blk.new w1 #[.int .i64 1, .int .i64 a, .int .i64 ((a : Int) + R), .int .i32 0, .string ⟨#[]⟩] 73
        have hk3 := hk1.alloc (.cells #[.int .i64 1, .int .i64 a, .int .i64 ((a : Int) + R), .int .i32 0, .string ⟨#[]⟩] 73)
        have hown3 := hown1.alloc (.cells #[.int .i64 1, .int .i64 a, .int .i64 ((a : Int) + R), .int .i32 0, .string ⟨#[]⟩] 73)
        clear hown1 hc1 hca hk1
        generalize w1.alloc (.cells #[.int .i64 1, .int .i64 a, .int .i64 ((a : Int) + R), .int .i32 0, .string ⟨#[]⟩] 73) = w3 at B3 hown3 hk3 ⊢
        have f9 := B3.cell
        have hsz := hk3.size
        go_wp2_with (at_builtin; refine wpList_app (by rfl) _ _ (by rfl) appT_pc (by rfl) (hown3.alloc _) (by rfl) (Sl.litg (by rfl) ?_ (by omega)) ?_ ?_ ?_ ?_; (exact rfl); (exact rfl); (omega); (simp; omega); (intro v' w' hown' hgr hob; obtain ⟨VA', VC', rfl, hVs⟩ := own_sl hown'; have B4 := (B3.alloc _).grown hgr (fun e => hvb e.symm); have f10 := B4.cell))
        have hk4 : Kept w w' := (hk3.alloc _).grown hgr (fun k e => by have := hown3.lt k e; omega)
        clear hown3 hgr hob hVs B3 B4 f9 f10
        go_roundw
        case rel =>
          have hl1 : (D ++ [((⟨1, R, 0, ⟨#[]⟩⟩ : Pc), a)]).length = D.length + 1 := by simp
          refine ⟨a + R, D ++ [((⟨1, R, 0, ⟨#[]⟩⟩ : Pc), a)], VA', VC', by omega, by simp, by rw [hl1], by rw [hl1]; omega, ?_, hk4, ?_⟩
          · rw [hl1, List.flatMap_append]
            simpa [pcE, pcC] using hown'
          · unfold Hid
            rw [hinv.out, hc.out]
            simp
        case measure =>
          simp [intOf]
          omega
    · have d1 : decide ((a : Int) < n) = false := by simp; omega
      obtain ⟨A2, c2, hVe, hV⟩ := own_sl hown
      injection hVe with e1 e2 e3
      subst e1 e3
      have hfin : pcsX l 0 = D := by rw [hinv.out, pcsX_end (by have := HL.out; omega), List.append_nil]
      have HF := Lib.hid hfin
      clear hfin
      go_wp2_with fail
      go_ret
      exact ⟨VA, VC, by rw [HF.out]; rfl, by rw [HF.out]; exact hV, hk⟩
end Go.Proofs.Ytmicmmbdkmmnoaa
