/- Layer 7: Tokens: walked; the tokens in plain words. -/
import Derived.Test.YtmndjkjdblldlaaLexD
namespace Go.Proofs.Ytmndjkjdblldlaa
open Go.RowKit
attribute [local go_sem ↓] Go.wp_at_zero Go.wp_at_succ

theorem refT_fit {s : List Int} (h : s ≠ []) : (refT s).2 ≤ s.length ∧ ((refT s).1 = 2 ∨ (refT s).1 = 3 ∨ (refT s).1 = 11) := by
  have h0 : 0 < s.length := List.length_pos_iff.2 h
  have hat : ∀ {k : Nat} {x : Int}, s[k]? = some x → k < s.length := fun h => (List.getElem?_eq_some_iff.1 h).1
  unfold refT
  split
  · split
    · split
      · rename_i h1
        have := hat h1.2
        exact ⟨by dsimp only; omega, by simp⟩
      · exact ⟨h0, by simp⟩
    · split
      · rename_i h1
        have := hat h1.2
        exact ⟨by dsimp only; omega, by simp⟩
      · exact ⟨h0, by simp⟩
  · split
    · rename_i h1
      have := hat h1.2
      exact ⟨by dsimp only; omega, by simp⟩
    · exact ⟨h0, by simp⟩
theorem markTk_bd {s : List Int} (h : s ≠ []) : 1 ≤ (markTk s).to ∧ (markTk s).to ≤ s.length ∧ 4 ≤ (markTk s).kind ∧ (markTk s).kind ≤ 11 := by
  have h0 : 0 < s.length := List.length_pos_iff.2 h
  unfold markTk
  split
  · rename_i h1
    have h2 := startsF_len h1
    obtain ⟨h3, h4, h5, _⟩ := upToF_le (kind := 4) (skip := 4) (e := cmt2) (s := s) h2
    exact ⟨by omega, h4, by omega, by omega⟩
  split
  · rename_i h1
    have h2 := startsF_len h1
    obtain ⟨h3, h4, h5, _⟩ := upToF_le (kind := 6) (skip := 9) (e := cda2) (s := s) h2
    exact ⟨by omega, h4, by omega, by omega⟩
  split
  · rename_i h1
    have h2 := startsF_len h1
    obtain ⟨h3, h4, h5, _⟩ := upToF_le (kind := 5) (skip := 2) (e := pis2) (s := s) h2
    exact ⟨by omega, h4, by omega, by omega⟩
  split
  · rename_i h1
    have h2 : 9 ≤ s.length := startsF_len h1
    have h3 := dtG_le (s.drop 9)
    rw [List.length_drop] at h3
    unfold dtTk
    exact ⟨by dsimp only; omega, by dsimp only; omega, by simp, by simp⟩
  split
  · rename_i h1
    have h2 : 2 ≤ s.length := startsF_len h1
    unfold endTk
    split
    · rename_i x hx
      have := (List.getElem?_eq_some_iff.1 hx).1
      split
      · exact ⟨by dsimp only; omega, by dsimp only; omega, by simp, by simp⟩
      · exact ⟨by dsimp only; omega, by dsimp only; omega, by simp, by simp⟩
    · exact ⟨by simp; omega, by simp, by simp, by simp⟩
  split
  · obtain ⟨h1, h2, _⟩ := angleF_le true (s.drop 1) 0
    rw [List.length_drop] at h1 h2
    unfold startTk
    split
    · rename_i hb
      have := h2 hb
      split
      · exact ⟨by dsimp only; omega, by dsimp only; omega, by simp, by simp⟩
      · exact ⟨by dsimp only; omega, by dsimp only; omega, by simp, by simp⟩
    · exact ⟨by dsimp only; omega, by dsimp only; omega, by simp, by simp⟩
  · exact ⟨by dsimp only; omega, by dsimp only; omega, by simp, by simp⟩
theorem nextTk_bd {s : List Int} (h : s ≠ []) : 1 ≤ (nextTk s).to ∧ (nextTk s).to ≤ s.length ∧ 1 ≤ (nextTk s).kind ∧ (nextTk s).kind ≤ 11 := by
  have h0 : 0 < s.length := List.length_pos_iff.2 h
  obtain ⟨x, t, rfl⟩ := List.exists_cons_of_ne_nil h
  unfold nextTk
  simp only [List.head?_cons]
  split
  · obtain ⟨a, b, c, d⟩ := markTk_bd h
    exact ⟨a, b, by omega, d⟩
  split
  · obtain ⟨a, b⟩ := refT_fit h
    have c := refT_len (x :: t)
    exact ⟨c, a, by simp; omega, by simp; omega⟩
  split
  · exact ⟨by simp, by simp, by simp, by simp⟩
  · rename_i h1 h2 h3
    have hp : plainR x = true := by simp [plainR, h1, h2, h3]
    exact ⟨runF_pos hp, runF_le _ _, by simp, by simp⟩

def tkC (q : Nat × Tok) : List Value := [.int .i64 q.2.kind, .int .i64 q.1, .int .i64 ((q.1 : Int) + q.2.to), .bool q.2.whole]
theorem tkC_len (q : Nat × Tok) : (tkC q).length = 4 := rfl
/-- All tokens. -/
def tokG : Nat → Nat → List Int → List (Nat × Tok)
  | 0, _, _ => []
  | f + 1, a, s => if s = [] then [] else (a, nextTk s) :: tokG f (a + (nextTk s).to) (s.drop (nextTk s).to)
def tokF (a : Nat) (s : List Int) : List (Nat × Tok) := tokG s.length a s
theorem tokG_fuel : ∀ (f a : Nat) (s : List Int), s.length ≤ f → tokG f a s = tokG s.length a s
  | 0, a, s, h => by
    have : s = [] := List.eq_nil_of_length_eq_zero (by omega)
    subst this
    rfl
  | f + 1, a, s, h => by
    by_cases hs : s = []
    · subst hs
      simp [tokG]
    · obtain ⟨h1, h2, _⟩ := nextTk_bd hs
      obtain ⟨m, hm⟩ : ∃ m, s.length = m + 1 := ⟨s.length - 1, by omega⟩
      rw [tokG, if_neg hs, hm, tokG, if_neg hs, tokG_fuel f _ _ (by rw [List.length_drop]; omega), tokG_fuel m _ _ (by rw [List.length_drop]; omega)]
theorem tokF_nil (a : Nat) : tokF a [] = [] := rfl
theorem tokF_cons (a : Nat) {s : List Int} (hs : s ≠ []) : tokF a s = (a, nextTk s) :: tokF (a + (nextTk s).to) (s.drop (nextTk s).to) := by
  obtain ⟨h1, h2, _⟩ := nextTk_bd hs
  obtain ⟨m, hm⟩ : ∃ m, s.length = m + 1 := ⟨s.length - 1, by omega⟩
  unfold tokF
  rw [hm, tokG, if_neg hs, tokG_fuel m _ _ (by rw [List.length_drop]; omega)]
/-- Which place a token's block tells. -/
def fromOf (p : Value) (w : World) : Nat := match p with
  | .pointer (some ⟨b, _, _⟩) => match w.cell? ⟨b, 1, none⟩ with
    | some v => (intOf v).toNat
    | none => 0
  | _ => 0
theorem grown_cell1 (w : World) (g j : Nat) (u : Value) : w.grownBy (w.setCell ⟨g, j, none⟩ u) (some g) :=
  ⟨rfl, rfl, rfl, by simp, fun k _ hk => heap_setCell_other w ⟨g, j, none⟩ k u (fun e => hk (by simp [e]))⟩
theorem own_cell {w : World} {base : Nat} {e : TypeId} {size n g : Nat} {v : Value} {xs : List Value} (h : w.ownsRow base e size v n xs) (hne : some g ≠ v.ownBlock) (i : Nat) (u : Value) : (w.setCell ⟨g, i, none⟩ u).ownsRow base e size v n xs :=
  own_grown h (grown_cell1 w g i u) (fun e => hne e.symm)
theorem appT_tok : AppT Try.prog 24 27 4 := appT_mk (z := .agg #[.int .i64 0, .int .i64 0, .int .i64 0, .bool false]) (bytes := 32) Try.underlying24 (by kernel_rfl) rfl (by omega) (by omega)
theorem ltokens_any (A : Option Addr) (n c : Nat) (l : List Int) (w : World) (h : Sl w 1 A n c (l.map (Value.int .i32))) (hn : n ≤ 1000000) :
    Calls Try.prog 5 #[.slice A n c] w fun e w' => ∃ A' m c', m = (tokF 0 l).length ∧ e = .returned (.slice A' m c') ∧ Sl w' 4 A' m c' ((tokF 0 l).flatMap tkC) ∧ Kept w w' := by
  have hcap := h.cap
  have hmax := h.max
  have hl := h.llen1
  have HL := Lib.hid hl
  clear hl
  have first : ∀ (a : Nat) (w' : World), a ≤ n → Kept w w' → Calls Try.prog 6 #[.slice A n c, .int .i64 a] w' fun e w'' =>
      ∃ tk ta tt tb, e = .returned (.tuple #[.agg #[.int .i64 tk, .int .i64 ta, .int .i64 tt, .bool tb], .bool (decide (a < n))]) ∧ Hid (a < n → tk = (nextTk (l.drop a)).kind ∧ ta = a ∧ tt = (a : Int) + (nextTk (l.drop a)).to ∧ tb = (nextTk (l.drop a)).whole) ∧ Kept w' w'' := by
    intro a w' ha hk
    by_cases hlt : a < n
    · refine (lnext_any A n c l a w' (h.kept hk) hn hlt).mono ?_
      rintro e w'' ⟨rfl, k⟩
      exact ⟨_, _, _, _, by rw [decide_eq_true hlt]; rfl, fun _ => ⟨rfl, rfl, rfl, rfl⟩, k⟩
    · refine (lnext_out A n c a w' (by omega)).mono ?_
      rintro e w'' ⟨rfl, k⟩
      exact ⟨_, _, _, _, by rw [decide_eq_false hlt], fun h => absurd h hlt, k⟩
  have HF := Lib.hid first
  clear first
  go_enter Try.func5, Try.ntmps5
  go_wp2_with fail
  refine (HF.out 0 _ (Nat.zero_le _) (Kept.refl w)).mono ?_
  rintro e w1 ⟨tk, ta, tt, tb, rfl, ht, k1⟩
  go_upto_region 3 with fail
  have B1 : Blk (w1.alloc (.cells #[.int .i64 tk, .int .i64 ta, .int .i64 tt, .bool tb] 27)) w1.heap.size #[.int .i64 tk, .int .i64 ta, .int .i64 tt, .bool tb] 27 := Blk.new w1 _ _
  have K1 : Kept w (w1.alloc (.cells #[.int .i64 tk, .int .i64 ta, .int .i64 tt, .bool tb] 27)) := k1.alloc _
  change Code.wp _ _ _ _ (w1.alloc (.cells #[.int .i64 tk, .int .i64 ta, .int .i64 tt, .bool tb] 27))
  have hB1 : w.heap.size ≤ w1.heap.size := k1.size
  generalize w1.alloc (.cells #[.int .i64 tk, .int .i64 ta, .int .i64 tt, .bool tb] 27) = w2 at B1 K1 ⊢
  generalize w1.heap.size = g1 at B1 hB1 ⊢
  go_wp2_with fail
  go_loopw [3, 4, 5] (fun v p k wr => ∃ (a : Nat) (L : List (Nat × Tok)) (B : Nat) (tk ta tt : Int) (tb : Bool), a ≤ n ∧ p = .pointer (some ⟨B, 0, none⟩) ∧ k = .bool (decide (a < n)) ∧ Blk wr B #[.int .i64 tk, .int .i64 ta, .int .i64 tt, .bool tb] 27 ∧ w.heap.size ≤ B ∧ some B ≠ v.ownBlock ∧
      Hid (a < n → tk = (nextTk (l.drop a)).kind ∧ ta = a ∧ tt = (a : Int) + (nextTk (l.drop a)).to ∧ tb = (nextTk (l.drop a)).whole) ∧ wr.ownsRow w.heap.size 27 4 v L.length (L.flatMap tkC) ∧ Kept w wr ∧ L.length ≤ a ∧ Hid (tokF 0 l = L ++ tokF a (l.drop a)))
    (fun _ p k wr => okOf k * (n + 1 - fromOf p wr))
  case atStart => exact ⟨0, [], g1, tk, ta, tt, tb, Nat.zero_le _, rfl, rfl, B1, hB1, by simp [Value.ownBlock], ht, World.ownsRow_nil _ _ _ _, K1, Nat.le_refl _, by simp [Hid]⟩
  case round =>
    obtain ⟨a, L, B, uk, ua, ut, ub, ha, rfl, rfl, hB, hBw, hne, hu, hown, hkept, hLa, hinv⟩ := hrel
    have hBl := hB.lt
    have cB := hB.cell
    have c0 : wr.cell? ⟨B, 0, none⟩ = some (.int .i64 uk) := cB 0
    have c1 : wr.cell? ⟨B, 1, none⟩ = some (.int .i64 ua) := cB 1
    have c2 : wr.cell? ⟨B, 2, none⟩ = some (.int .i64 ut) := cB 2
    have c3 : wr.cell? ⟨B, 3, none⟩ = some (.bool ub) := cB 3
    clear cB
    by_cases hlt : a < n
    · have dlt : decide (a < n) = true := decide_eq_true hlt
      have hus := hu.out hlt
      have hsne : l.drop a ≠ [] := by
        have := HL.out
        intro e
        have := congrArg List.length e
        simp at this
        omega
      obtain ⟨hb1, hb2, _⟩ := nextTk_bd hsne
      have hcons := tokF_cons a hsne
      rw [List.drop_drop] at hcons
      rw [List.length_drop, HL.out] at hb2
      obtain ⟨T, hT⟩ : ∃ T, nextTk (l.drop a) = T := ⟨_, rfl⟩
      rw [hT] at hus hb1 hb2 hcons
      obtain ⟨rfl, rfl, rfl, rfl⟩ := hus
      have HC := Lib.hid hcons
      have HFR := Lib.hid (show fromOf (.pointer (some ⟨B, 0, none⟩)) wr = a by simp [fromOf, c1, intOf])
      clear hcons hsne hT hu
      rw [dlt]
      go_upto_region 6 with (at_builtin; refine wpList_push w (by rfl) _ _ (by rfl) appT_tok (by rfl) hown hkept (by rfl) ?_ ?_; (exact ⟨by simp, rfl, rfl, by omega⟩); intro v5 w5 hown5 hk5 hgr5 hob5)
      have B5 := (hB.alloc (.cells #[.int .i64 T.kind, .int .i64 a, .int .i64 ((a : Int) + T.to), .bool T.whole] 27)).grown hgr5 hne
      have hne5 : some B ≠ v5.ownBlock := by
        rcases hob5 with h1 | h1
        · rw [h1]; exact hne
        · rw [h1]
          intro e
          injection e with e
          omega
      have cB := B5.cell
      have e0 : w5.cell? ⟨B, 0, none⟩ = some (.int .i64 T.kind) := cB 0
      have e1 : w5.cell? ⟨B, 1, none⟩ = some (.int .i64 a) := cB 1
      have e2 : w5.cell? ⟨B, 2, none⟩ = some (.int .i64 ((a : Int) + T.to)) := cB 2
      have e3 : w5.cell? ⟨B, 3, none⟩ = some (.bool T.whole) := cB 3
      clear cB c0 c1 c2 c3 hown hkept hgr5 hob5 hne hB hBl
      go_upto_region 4 with fail
      have B6 : Blk (w5.alloc (.cells #[.int .i64 T.kind, .int .i64 a, .int .i64 ((a : Int) + T.to), .bool T.whole] 27)) w5.heap.size #[.int .i64 T.kind, .int .i64 a, .int .i64 ((a : Int) + T.to), .bool T.whole] 27 := Blk.new w5 _ _
      have k6 : Kept w5 (w5.alloc (.cells #[.int .i64 T.kind, .int .i64 a, .int .i64 ((a : Int) + T.to), .bool T.whole] 27)) := (Kept.refl w5).alloc _
      change Code.wp _ _ _ _ (w5.alloc (.cells #[.int .i64 T.kind, .int .i64 a, .int .i64 ((a : Int) + T.to), .bool T.whole] 27))
      have hg6 : w.heap.size ≤ w5.heap.size := hk5.size
      have hne6 : some w5.heap.size ≠ v5.ownBlock := by
        intro e
        have := hown5.lt _ e.symm
        omega
      generalize w5.alloc (.cells #[.int .i64 T.kind, .int .i64 a, .int .i64 ((a : Int) + T.to), .bool T.whole] 27) = w6 at B6 k6 ⊢
      have hk6 := hk5.trans k6
      have hown6 := own_kept hown5 k6
      generalize w5.heap.size = g6 at B6 hg6 hne6 ⊢
      clear e0 e1 e2 e3 hne5 B5 hk5 hown5 k6
      have cB := B6.cell
      have e0 : w6.cell? ⟨g6, 0, none⟩ = some (.int .i64 T.kind) := cB 0
      have e1 : w6.cell? ⟨g6, 1, none⟩ = some (.int .i64 a) := cB 1
      have e2 : w6.cell? ⟨g6, 2, none⟩ = some (.int .i64 ((a : Int) + T.to)) := cB 2
      have e3 : w6.cell? ⟨g6, 3, none⟩ = some (.bool T.whole) := cB 3
      have gl := B6.lt
      clear cB
      have hnx := HF.out (a + T.to)
      rw [show ((a + T.to : Nat) : Int) = (a : Int) + T.to by omega] at hnx
      have HN := Lib.hid hnx
      clear hnx
      go_wp2_with fail
      refine (HN.out _ (by omega) hk6).mono ?_
      rintro e w7 ⟨uk, ua, ut, ub, rfl, hu, k7⟩
      have B7 := B6.kept k7
      have cB := B7.cell
      have f0 : w7.cell? ⟨g6, 0, none⟩ = some (.int .i64 T.kind) := cB 0
      have f1 : w7.cell? ⟨g6, 1, none⟩ = some (.int .i64 a) := cB 1
      have f2 : w7.cell? ⟨g6, 2, none⟩ = some (.int .i64 ((a : Int) + T.to)) := cB 2
      have f3 : w7.cell? ⟨g6, 3, none⟩ = some (.bool T.whole) := cB 3
      have ff := B7.frozen
      have fl := B7.lt
      have hown7 := own_kept hown6 k7
      have hk7 := hk6.trans k7
      clear cB e0 e1 e2 e3 gl
      go_wp2_with fail
      have BN := (((B7.set 0 (.int .i64 uk)).set 1 (.int .i64 ua)).set 2 (.int .i64 ut)).set 3 (.bool ub)
      have BN' : Blk ((((w7.setCell ⟨g6, 0, none⟩ (.int .i64 uk)).setCell ⟨g6, 1, none⟩ (.int .i64 ua)).setCell ⟨g6, 2, none⟩ (.int .i64 ut)).setCell ⟨g6, 3, none⟩ (.bool ub)) g6 #[.int .i64 uk, .int .i64 ua, .int .i64 ut, .bool ub] 27 := BN
      have KN := (((hk7.setCell (p := ⟨g6, 0, none⟩) hg6 (.int .i64 uk)).setCell (p := ⟨g6, 1, none⟩) hg6 (.int .i64 ua)).setCell (p := ⟨g6, 2, none⟩) hg6 (.int .i64 ut)).setCell (p := ⟨g6, 3, none⟩) hg6 (.bool ub)
      have ON := own_cell (own_cell (own_cell (own_cell hown7 hne6 0 (.int .i64 uk)) hne6 1 (.int .i64 ua)) hne6 2 (.int .i64 ut)) hne6 3 (.bool ub)
      generalize (((w7.setCell ⟨g6, 0, none⟩ (.int .i64 uk)).setCell ⟨g6, 1, none⟩ (.int .i64 ua)).setCell ⟨g6, 2, none⟩ (.int .i64 ut)).setCell ⟨g6, 3, none⟩ (.bool ub) = wN at BN' KN ON ⊢
      have hfr : a + T.to < n → fromOf (.pointer (some ⟨g6, 0, none⟩)) wN = a + T.to := by
        intro hl
        have h1 := (hu.out hl).2.1
        have h2 := BN'.cell 1
        unfold fromOf
        simp only [h2]
        rw [h1]
        simp [intOf]
        omega
      clear BN f0 f1 f2 f3 ff fl
      refine ⟨⟨a + T.to, L ++ [(a, T)], g6, uk, ua, ut, ub, by omega, rfl, rfl, BN', hg6, hne6, hu, ?_, KN, ?_, ?_⟩, ?_⟩
      · rw [List.flatMap_append, List.length_append]
        exact ON
      · rw [List.length_append]
        simp
        omega
      · unfold Hid
        rw [hinv.out, HC.out, List.append_assoc]
        rfl
      · rw [HFR.out]
        by_cases hl : a + T.to < n
        · rw [hfr hl, decide_eq_true hl]
          simp [okOf]
          omega
        · rw [decide_eq_false hl]
          simp [okOf]
          omega
    · have dlt : decide (a < n) = false := decide_eq_false hlt
      rw [dlt]
      obtain ⟨VA, VC, rfl, hV⟩ := Sl.of_own hown
      go_wp2_with fail
      go_ret
      have hnil : l.drop a = [] := List.drop_eq_nil_of_le (by rw [HL.out]; omega)
      have hI := hinv.out
      rw [hnil, tokF_nil, List.append_nil] at hI
      rw [hI]
      exact ⟨VA, L.length, VC, rfl, rfl, hV, hkept⟩
end Go.Proofs.Ytmndjkjdblldlaa
