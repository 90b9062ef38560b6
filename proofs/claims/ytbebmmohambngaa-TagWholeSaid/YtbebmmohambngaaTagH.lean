/- The law TagWhole, walked. -/
import Derived.Test.YtbebmmohambngaaTagD
import Derived.Test.YtbebmmohambngaaTagL
namespace Go.Proofs.Ytbebmmohambngaa
open Go.RowKit

theorem pieceF_five {s : List Int} {b : Bool} (h : (pieceF s b).1 = 5) : 2 ≤ (pieceF s b).2 := by
  have hv : 0 < valueF s → 2 ≤ valueF s := by
    intro h0
    cases s with
    | nil => simp [valueF] at h0
    | cons x r =>
      rw [valueF] at h0 ⊢
      repeat' split
      all_goals first | omega | simp_all
  unfold pieceF at h ⊢
  by_cases c1 : (b && startsF [60, 47] s) = true
  · rw [if_pos c1] at h
    simp at h
  rw [if_neg c1] at h ⊢
  by_cases c2 : (b && (s.head? == some 60)) = true
  · rw [if_pos c2] at h
    simp at h
  rw [if_neg c2] at h ⊢
  by_cases c3 : 0 < runF isSpace s
  · rw [if_pos c3] at h
    simp at h
  rw [if_neg c3] at h ⊢
  by_cases c4 : 0 < leadF s
  · rw [if_pos c4] at h
    simp at h
  rw [if_neg c4] at h ⊢
  by_cases c5 : (s.head? == some 61) = true
  · rw [if_pos c5] at h
    simp at h
  rw [if_neg c5] at h ⊢
  by_cases c6 : 0 < valueF s
  · rw [if_pos c6]
    exact hv c6
  rw [if_neg c6] at h ⊢
  split at h <;> simp at h
theorem partsX_five : ∀ (n : Nat) (s : List Int) (at_ : Int) (b : Bool), s.length ≤ n → ∀ p ∈ partsX at_ s b, p.k = 5 → 2 ≤ p.t - p.f
  | 0, s, at_, b, h => by
    have : s = [] := List.eq_nil_of_length_eq_zero (by omega)
    subst this
    simp [partsX_nil]
  | n + 1, s, at_, b, h => by
    by_cases hs : s = []
    · subst hs
      simp [partsX_nil]
    · have hb := pieceF_bd s b hs
      rw [partsX_cons _ _ _ hs]
      intro p hp hk
      rcases List.mem_cons.1 hp with rfl | hp
      · have := pieceF_five hk
        dsimp only
        omega
      · exact partsX_five n (s.drop (pieceF s b).2) (at_ + (pieceF s b).2) false (by rw [List.length_drop]; omega) p hp hk
theorem chain_drop : ∀ (P : List Prt) (a b : Int) (k : Nat) (p : Prt), Chain a P b → P[k]? = some p → Chain p.f (P.drop k) b ∧ Chain p.t (P.drop (k + 1)) b ∧ 1 ≤ p.k ∧ p.k ≤ 7 ∧ p.f < p.t
  | [], a, b, k, p, h, hp => by simp at hp
  | q :: P, a, b, 0, p, h, hp => by
    injection hp with hp
    subst hp
    obtain ⟨h1, h2, h3, h4, h5⟩ := h
    exact ⟨⟨rfl, h2, h3, h4, h5⟩, h5, h3, h4, h2⟩
  | q :: P, a, b, k + 1, p, h, hp => chain_drop P q.t b k p h.2.2.2.2 hp
theorem chain_head {P : List Prt} {a b : Int} {k : Nat} {p : Prt} (h : Chain a (P.drop k) b) (hp : P[k]? = some p) : p.f = a := by
  rw [drop_get hp] at h
  exact h.1
theorem chain_end {P : List Prt} {a b : Int} {k : Nat} (h : Chain a (P.drop k) b) (hk : P.length ≤ k) : a = b := by
  rw [List.drop_eq_nil_of_le hk] at h
  exact h

/-- Attributes that lie one behind the other. -/
def AChain : Int → List Atr → Int → Prop
  | a, [], b => a ≤ b
  | a, x :: xs, b => x.all.f = a ∧ x.all.f < x.name.f ∧ x.name.t ≤ x.value.f ∧ x.value.t = x.all.t ∧ 2 ≤ x.value.t - x.value.f ∧ (0 ≤ x.value.f ∧ x.value.t ≤ b) ∧ AChain x.all.t xs b
theorem attrF_chain {P : List Prt} {j N : Nat} {x : Atr} {a0 a b : Int} (h0 : Chain a0 P b) (h00 : 0 ≤ a0) (h5 : ∀ p ∈ P, p.k = 5 → 2 ≤ p.t - p.f) (h : Chain a (P.drop j) b) (hx : attrF P j = some (x, N)) :
    (x.all.f = a ∧ x.all.f < x.name.f ∧ x.name.t ≤ x.value.f ∧ x.value.t = x.all.t ∧ 2 ≤ x.value.t - x.value.f ∧ 0 ≤ x.value.f ∧ x.value.t ≤ b) ∧ Chain x.all.t (P.drop N) b := by
  obtain ⟨p0, p1, v, t3, t2, t4, t5, e0, e1, ev, rfl, rfl⟩ := attrF_yes hx
  have c0 := chain_drop P a0 b j p0 h0 e0
  have c1 := chain_drop P a0 b (j + 1) p1 h0 e1
  have cv := chain_drop P a0 b (valAt P j) v h0 ev
  have hp1 : p1.f = p0.t := chain_head c0.2.1 e1
  have hva : j + 2 ≤ valAt P j := by unfold valAt eqAt; omega
  obtain ⟨q, hq, hqk⟩ := takeF_one t5
  obtain rfl : v = q := by rw [ev] at hq; simpa using hq
  have hbd := chain_bd _ _ _ c1.2.1
  have hv1 := hbd.2 (valAt P j - (j + 2)) v (by rw [List.getElem?_drop, show j + 1 + 1 + (valAt P j - (j + 2)) = valAt P j by omega]; exact ev)
  have hb0 := (chain_bd _ _ _ h0).2 _ _ ev
  have hh : p0.f = a := chain_head h e0
  refine ⟨⟨hh, ?_, hv1.1, rfl, h5 v (List.mem_of_getElem? ev) hqk, ?_, hb0.2.2⟩, cv.2.1⟩
  · dsimp only
    omega
  · dsimp only
    omega
theorem attrsF_chain {P : List Prt} {a0 b : Int} (h0 : Chain a0 P b) (h00 : 0 ≤ a0) (h5 : ∀ p ∈ P, p.k = 5 → 2 ≤ p.t - p.f) : ∀ (fuel : Nat) (j : Nat) (a : Int), Chain a (P.drop j) b → AChain a (attrsF fuel P j).1 b
  | 0, j, a, h => (chain_bd _ _ _ h).1
  | fuel + 1, j, a, h => by
    cases hx : attrF P j with
    | none =>
      simp only [attrsF, hx]
      exact (chain_bd _ _ _ h).1
    | some r =>
      obtain ⟨x, N⟩ := r
      obtain ⟨⟨c1, c2, c3, c4, c5, c6, c7⟩, c8⟩ := attrF_chain h0 h00 h5 h hx
      simp only [attrsF, hx]
      exact ⟨c1, c2, c3, c4, c5, ⟨c6, c7⟩, attrsF_chain h0 h00 h5 fuel N x.all.t c8⟩
theorem readF_chain {l : List Int} : AChain (readF (partsL l 0 l.length)).name.t (readF (partsL l 0 l.length)).attrs l.length := by
  have hC := partsL_chain (l := l) (f := 0) (t := l.length) (by omega)
  have h5 : ∀ p ∈ partsL l 0 l.length, p.k = 5 → 2 ≤ p.t - p.f := by
    unfold partsL
    rw [if_neg (by omega)]
    exact partsX_five _ _ _ _ (Nat.le_refl _)
  generalize partsL l 0 l.length = P at hC h5
  cases ht : takeF [1, 2] P
  · have hF : readF P = ⟨noPrt, [], false, false⟩ := by
      unfold readF
      rw [ht]
      rfl
    rw [hF]
    simp [AChain, noPrt]
  · obtain ⟨p0, p1, R, rfl, _, _⟩ := takeF_two ht
    have hn : (readF (p0 :: p1 :: R)).name = p1 ∧ (readF (p0 :: p1 :: R)).attrs = (attrsX (p0 :: p1 :: R) 2).1 := by
      unfold readF
      rw [if_pos ht]
      generalize (p0 :: p1 :: R)[(attrsX (p0 :: p1 :: R) 2).2 + skipN ((p0 :: p1 :: R).drop (attrsX (p0 :: p1 :: R) 2).2)]? = z
      cases z with
      | none => exact ⟨rfl, rfl⟩
      | some c =>
        simp only [List.getElem?_cons_zero, List.getElem?_cons_succ]
        split <;> exact ⟨rfl, rfl⟩
    rw [hn.1, hn.2]
    exact attrsF_chain hC (Int.le_refl _) h5 _ 2 p1.t (chain_drop _ _ _ 1 p1 hC rfl).2.1

set_option maxRecDepth 100000 in
set_option maxHeartbeats 8000000 in
theorem lawWhole_any (A : Option Addr) (n c : Nat) (l : List Int) (w : World) (h : Sl w 1 A n c (l.map (Value.int .i32))) :
    Calls Try.prog 5 #[.slice A n c] w fun e w' => e = .returned (.bool true) ∧ Kept w w' := by
  have hcap := h.cap
  have hmax := h.max
  go_enter Try.func5, Try.ntmps5
  go_wp2_with fail
  refine (few_any _ _ _ _ hcap hmax).mono ?_
  rintro e _ ⟨⟨m, hm, rfl⟩, rfl⟩
  have hm1 : m ≤ n := by omega
  have hm2 : m ≤ 120 := by omega
  have h2 := h.to1 hm1
  obtain ⟨L, hL⟩ : ∃ L, l.take m = L := ⟨_, rfl⟩
  rw [hL] at h2
  clear hL hm h hcap hmax hm1
  have hLm := h2.llen1
  go_wp2_with fail
  refine (parts_any _ _ _ L 0 m _ h2 (by omega)).mono ?_
  rintro e w1 ⟨A1, c1, rfl, hP1, hk1, _⟩
  have hC : Chain 0 ((partsL L 0 m).drop 0) m := partsL_chain (by omega)
  have hlen := partsL_len L 0 m
  have hN : (partsL L 0 m).length ≤ 120 := by omega
  have hRC := readF_chain (l := L)
  rw [hLm] at hRC
  clear hlen
  obtain ⟨G, hG⟩ : ∃ G, readF (partsL L 0 m) = G := ⟨_, rfl⟩
  have HG := Lib.hid hG
  rw [hG] at hRC
  clear hG
  obtain ⟨P, hP⟩ : ∃ P, partsL L 0 m = P := ⟨_, rfl⟩
  rw [hP] at hP1 hN hC ⊢
  clear hP
  obtain ⟨N, hNe⟩ : ∃ N, P.length = N := ⟨_, rfl⟩
  rw [hNe] at hP1 hN ⊢
  have HN := Lib.hid hNe
  have HLm := Lib.hid hLm
  clear hNe hLm
  have hcap1 := hP1.cap
  have hmax1 := hP1.max
  obtain ⟨a0, ha0⟩ : ∃ a0 : Int, a0 = 0 := ⟨_, rfl⟩
  rw [← ha0] at hC
  have HC := Lib.hid hC
  have HA0 := Lib.hid ha0
  clear hC ha0
  have HRC := Lib.hid hRC
  clear hRC
  go_wp2_with fail
  go_loopw [3, 17] (fun s3 v wr => ∃ (k : Nat) (a : Int), k ≤ N ∧ v = .int .i64 k ∧ s3 = .int .i64 a ∧ Hid (Chain a (P.drop k) m) ∧ Kept w1 wr) (fun _ v _ => N - (intOf v).toNat)
  case atStart => exact ⟨0, 0, Nat.zero_le _, rfl, rfl, by have := HC.out; rw [HA0.out] at this; exact this, Kept.refl _⟩
  case round =>
    obtain ⟨k, a, hkN, rfl, rfl, hCk, hkr⟩ := hrel
    by_cases hlt : k < N
    · obtain ⟨b1, o1, p, rfl, hp1, x0, x1, x2, hb1⟩ := elem_prt (hP1.kept hkr) hlt
      have hCk' := hCk.out
      rw [drop_get hp1] at hCk'
      obtain ⟨rfl, c2, c3, c4, c5⟩ := hCk'
      have HC5 := Lib.hid c5
      have d1 : decide (p.t ≤ p.f) = false := by simp; omega
      have d2 : decide (p.k < 1) = false := by simp; omega
      have d3 : decide (7 < p.k) = false := by simp; omega
      have n1 : (b1 = wr.heap.size) = False := by simp; omega
      have n1' : (wr.heap.size = b1) = False := by simp; omega
      clear hp1 c5 hCk
      go_wp2_with fail
      go_roundw
      case rel => exact ⟨k + 1, p.t, hlt, by simp, rfl, HC5, by repeat (first | (with_reducible exact hkr) | (with_reducible refine Kept.alloc ?_ _))⟩
      case measure =>
        simp [intOf]
        omega
    · obtain rfl : a = m := chain_end hCk.out (by have := HN.out; omega)
      have hkk : k = N := by omega
      go_wp2_with fail
      refine (read_any _ _ _ L 0 m _ ((h2.kept hk1).kept hkr) (by omega)).mono ?_
      rintro e w3 ⟨A3, c3, rfl, hP3, hk3⟩
      rw [HG.out] at hP3 ⊢
      obtain ⟨⟨nk, nf, nt⟩, os, rt, em⟩ := G
      dsimp only at hP3 ⊢
      obtain ⟨M, hMe⟩ : ∃ M, os.length = M := ⟨_, rfl⟩
      rw [hMe] at hP3 ⊢
      have HM := Lib.hid hMe
      clear hMe
      have D1 := Blk.new w3 #[.int .i64 nk, .int .i64 nf, .int .i64 nt, .slice A3 M c3, .bool rt, .bool em] 36
      have f6 := D1.cell
      have hP4 := hP3.kept ((Kept.refl w3).alloc (.cells #[.int .i64 nk, .int .i64 nf, .int .i64 nt, .slice A3 M c3, .bool rt, .bool em] 36))
      have hK3 := (((hk1.trans hkr).trans hk3)).alloc (.cells #[.int .i64 nk, .int .i64 nf, .int .i64 nt, .slice A3 M c3, .bool rt, .bool em] 36)
      have hcap3 := hP4.cap
      have hmax3 := hP4.max
      clear hCk hP1 hk3 hkr hk1 h2 hkk hP3
      go_wp2_with fail
      clear f6
      go_loopw [7, 55] (fun s7 v wq => ∃ (k : Nat) (a : Int), k ≤ M ∧ v = .int .i64 k ∧ s7 = .int .i64 a ∧ Hid (AChain a (os.drop k) m) ∧ Kept (w3.alloc (.cells #[.int .i64 nk, .int .i64 nf, .int .i64 nt, .slice A3 M c3, .bool rt, .bool em] 36)) wq) (fun _ v _ => M - (intOf v).toNat)
      case atStart => exact ⟨0, nt, Nat.zero_le _, rfl, rfl, HRC.out, Kept.refl _⟩
      case round =>
        obtain ⟨j, a, hjM, rfl, rfl, hAk, hkq⟩ := hrel
        by_cases hlt2 : j < M
        · obtain ⟨b2, o2, x, rfl, hx1, ⟨y0, y1, y2, y3, y4, y5, y6, y7, y8⟩, hb2⟩ := elem_atr (hP4.kept hkq) hlt2
          have hAk' := hAk.out
          rw [drop_get hx1] at hAk'
          obtain ⟨rfl, c2, c3', c4, c5, ⟨c6, c7⟩, c8⟩ := hAk'
          have HC8 := Lib.hid c8
          obtain ⟨D, hD⟩ : ∃ D, x.value.t - x.value.f = D := ⟨_, rfl⟩
          have hw : IntKind.i64.wrap (x.value.t - x.value.f) = D := by rw [IntWalk.i64_in _ (by omega), hD]
          have d1 : decide (x.name.f ≤ x.all.f) = false := by simp; omega
          have d2 : decide (x.value.f < x.name.t) = false := by simp; omega
          have d3 : (x.value.t != x.all.t) = false := by simp; omega
          have d4 : decide (D < 2) = false := by simp; omega
          have n2 : (b2 = wr.heap.size) = False := by simp; omega
          have n2' : (wr.heap.size = b2) = False := by simp; omega
          clear hx1 c2 c3' c4 c5 c6 c7 c8 hAk hD
          go_wp2_with fail
          go_roundw
          case rel => exact ⟨j + 1, x.all.t, hlt2, by simp, rfl, HC8, by repeat (first | (with_reducible exact hkq) | (with_reducible refine Kept.alloc ?_ _))⟩
          case measure =>
            simp [intOf]
            omega
        · have hfin : a ≤ m := by
            have := hAk.out
            rw [List.drop_eq_nil_of_le (by have := HM.out; omega)] at this
            exact this
          have d1 : decide (a ≤ (m : Int)) = true := by simpa using hfin
          go_wp2_with fail
          refine (awake_any _).mono ?_
          rintro e w4 ⟨rfl, hk4⟩
          go_wp2_with fail
          go_ret
          exact ⟨rfl, (hK3.trans hkq).trans hk4⟩
end Go.Proofs.Ytbebmmohambngaa
