/- Layer 7: the law LexWhole, walked. -/
import Derived.Test.YtmndjkjdblldlaaLexE
namespace Go.Proofs.Ytmndjkjdblldlaa
open Go.RowKit
attribute [local go_sem ↓] Go.wp_at_zero Go.wp_at_succ

def FewP (A : Option Addr) (n c : Nat) (l : List Int) (n' : Nat) : Prop := ∀ W0, Sl W0 1 A n c (l.map (Value.int .i32)) → Sl W0 1 A n' c ((l.take 160).map (Value.int .i32))
theorem lexFew_any (A : Option Addr) (n c : Nat) (l : List Int) (w : World) (h : Sl w 1 A n c (l.map (Value.int .i32))) :
    Calls Try.prog 4 #[.slice A n c] w fun e w' => ∃ n' : Nat, e = .returned (.slice A n' c) ∧ FewP A n c l n' ∧ n' ≤ 160 ∧ w = w' := by
  have hpc := h.cap
  have hpm := h.max
  by_cases h5 : 160 < n
  · have hcut : ∀ wv : World, (Instr.slice 22 (.slice A n c) none (some (.int .i64 160)) none).run Try.prog wv = .ok (.slice A 160 c) wv := run_cut_h appT_runes A n c 160 (by omega)
    have HP : FewP A n c l 160 := fun W0 h => h.to1 (m := 160) (by omega)
    have l1 : (160 : Int) < n := by omega
    go_enter Try.func4, Try.ntmps4
    go_wp2_with fail
    go_ret
    exact ⟨160, by simp, HP, Nat.le_refl _, rfl⟩
  · have hl := h.llen1
    have HP : FewP A n c l n := by
      intro W0 h
      rw [List.take_of_length_le (by omega)]
      exact h
    have l1 : ¬ (160 : Int) < n := by omega
    clear hl
    go_enter Try.func4, Try.ntmps4
    go_wp2_with fail
    go_ret
    exact ⟨n, by simp, HP, by omega, rfl⟩

def awL1 : List Int := [97, 60, 98, 62, 38, 120, 59]
def awL2 : List Int := [60, 97, 32, 98, 61, 34, 62]
theorem aw_toks : tokF 0 awL1 = [(0, ⟨1, 1, true⟩), (1, ⟨8, 3, true⟩), (4, ⟨2, 3, true⟩)] := by kernel_rfl
theorem aw_next : nextTk awL2 = ⟨8, 7, false⟩ := by kernel_rfl
set_option maxHeartbeats 4000000 in
theorem lexAwake_any (w : World) : Calls Try.prog 7 #[] w fun e w' => e = .returned (.bool true) ∧ Kept w w' := by
  have h1 : ∀ w : World, Sl (w.alloc (.cells (awL1.map (Value.int .i32)).toArray 21)) 1 (some ⟨w.heap.size, 0, none⟩) 7 7 (awL1.map (Value.int .i32)) := fun w => Sl.lit rfl (by omega)
  have h2 : ∀ w : World, Sl (w.alloc (.cells (awL2.map (Value.int .i32)).toArray 21)) 1 (some ⟨w.heap.size, 0, none⟩) 7 7 (awL2.map (Value.int .i32)) := fun w => Sl.lit rfl (by omega)
  have H1 := Lib.hid (fun w : World => ltokens_any _ 7 7 awL1 _ (h1 w) (by omega))
  have H2 := Lib.hid (fun w : World => lnext_any _ 7 7 awL2 0 _ (h2 w) (by omega) (by omega))
  clear h1 h2
  go_enter Try.func7, Try.ntmps7
  go_wp2_with fail
  refine (H1.out _).mono ?_
  rintro e w1 ⟨A', m, c', hm, rfl, hS, k1⟩
  rw [aw_toks] at hm hS
  obtain rfl : m = 3 := hm
  have hc := hS.cap
  have hx := hS.max
  have K1 : Kept w w1 := ((Kept.refl w).alloc _).trans k1
  clear k1
  go_wp2_with fail
  refine (H2.out _).mono ?_
  rintro e w2 ⟨rfl, k2⟩
  have k12 : Kept w1 w2 := ((Kept.refl w1).alloc _).trans k2
  have hS2 := hS.kept k12
  obtain ⟨b, o, rfl, hcell⟩ := hS2.at_ (by omega)
  have x0 : w2.cell? ⟨b, o, none⟩ = some (.int .i64 1) := hcell 0 _ rfl
  have x4 : w2.cell? ⟨b, o + 4, none⟩ = some (.int .i64 8) := hcell 4 _ rfl
  have x8 : w2.cell? ⟨b, o + 8, none⟩ = some (.int .i64 2) := hcell 8 _ rfl
  have hbl := World.block_lt_of_cell? _ _ x0
  have K2 := K1.trans k12
  rw [List.drop_zero, aw_next]
  simp only [tkV]
  clear hS hS2 hcell k12 k2 H1 H2
  go_wp2_with fail
  go_ret
  exact ⟨rfl, K2.alloc _⟩
theorem tok_cells {w : World} {n c : Nat} {A : Option Addr} {L : List (Nat × Tok)} (h : Sl w 4 A n c (L.flatMap tkC)) {k : Nat} (hk : k < n) :
    ∃ b o q, A = some ⟨b, o, none⟩ ∧ L[k]? = some q ∧ w.cell? ⟨b, o + k * 4, none⟩ = some (.int .i64 q.2.kind) ∧ w.cell? ⟨b, o + k * 4 + 1, none⟩ = some (.int .i64 q.1) ∧ w.cell? ⟨b, o + k * 4 + 2, none⟩ = some (.int .i64 ((q.1 : Int) + q.2.to)) ∧
      w.cell? ⟨b, o + k * 4 + 3, none⟩ = some (.bool q.2.whole) ∧ b < w.heap.size := by
  obtain ⟨b, o, q, hA, hx, hc, hb⟩ := h.elemb tkC_len (by omega) hk
  exact ⟨b, o, q, hA, hx, hc 0 _ rfl, hc 1 _ rfl, hc 2 _ rfl, hc 3 _ rfl, hb⟩
set_option maxHeartbeats 8000000 in
theorem lexWhole_any (A : Option Addr) (n c : Nat) (l : List Int) (w : World) (h : Sl w 1 A n c (l.map (Value.int .i32))) :
    Calls Try.prog 3 #[.slice A n c] w fun e w' => e = .returned (.bool true) ∧ Kept w w' := by
  have hF := Lib.hid (lexFew_any A n c l w h)
  go_enter Try.func3, Try.ntmps3
  go_wp2_with fail
  refine hF.out.mono ?_
  rintro e w0 ⟨n', rfl, HP, hn', rfl⟩
  have hS := HP _ h
  clear h hF HP
  generalize hl' : l.take 160 = s at hS
  clear hl'
  have HT := Lib.hid (ltokens_any A n' c s w hS (by omega))
  have hcap := hS.cap
  have hmax := hS.max
  have HL := Lib.hid hS.llen1
  go_wp2_with fail
  refine HT.out.mono ?_
  rintro e w1 ⟨TA, m, tc, hm, rfl, hT, k1⟩
  have HM := Lib.hid hm
  have htc := hT.cap
  have htm := hT.max
  clear hm HT
  go_wp2_with fail
  go_loopw [3, 13] (fun v i wr => ∃ (j a : Nat), j ≤ m ∧ a ≤ n' ∧ i = .int .i64 j ∧ v = .int .i64 a ∧ Kept w1 wr ∧ Hid ((tokF 0 s).drop j = tokF a (s.drop a))) (fun _ i _ => m - (intOf i).toNat)
  case atStart => exact ⟨0, 0, Nat.zero_le _, Nat.zero_le _, rfl, rfl, Kept.refl _, by simp [Hid]⟩
  case round =>
    obtain ⟨j, a, hj, ha, rfl, rfl, hkept, hinv⟩ := hrel
    have hmc : m - j = (tokF a (s.drop a)).length := by
      have h1 := HM.out
      have h2 := congrArg List.length hinv.out
      rw [List.length_drop] at h2
      omega
    by_cases hlt : j < m
    · have hane : a < n' := by
        rcases Nat.lt_or_ge a n' with h1 | h1
        · exact h1
        · rw [List.drop_eq_nil_of_le (by rw [HL.out]; exact h1), tokF_nil] at hmc
          simp at hmc
          omega
      have hne : s.drop a ≠ [] := by
        intro e
        have := congrArg List.length e
        have := HL.out
        simp at *
        omega
      obtain ⟨hb1, hb2, hb3, hb4⟩ := nextTk_bd hne
      rw [List.length_drop, HL.out] at hb2
      have hcons := hinv.out
      rw [tokF_cons a hne, List.drop_drop] at hcons
      have hget : (tokF 0 s)[j]? = some (a, nextTk (s.drop a)) := by
        have := congrArg (fun t => t[0]?) hcons
        simpa using this
      have htail : (tokF 0 s).drop (j + 1) = tokF (a + (nextTk (s.drop a)).to) (s.drop (a + (nextTk (s.drop a)).to)) := by
        have := congrArg (fun t => t.drop 1) hcons
        simpa [List.drop_drop] using this
      obtain ⟨b, o, q, rfl, hq, x0, x1, x2, x3, hbl⟩ := tok_cells (hT.kept hkept) hlt
      rw [hget] at hq
      injection hq with hq
      subst hq
      have hcut : ∀ wv : World, (Instr.slice 22 (.slice A n' c) (some (.int .i64 a)) none none).run Try.prog wv = .ok (.slice (cutA A c a 1) (n' - a) (c - a)) wv := run_cut_l appT_runes A n' c a ha
      have hsl := ((hS.kept k1).kept hkept).from1 ha
      obtain ⟨CA, hCA⟩ : ∃ CA, cutA A c a 1 = CA := ⟨_, rfl⟩
      rw [hCA] at hcut hsl
      have HN := Lib.hid (fun w' (kk : Kept wr w') => lnext_any CA (n' - a) (c - a) (s.drop a) 0 w' (hsl.kept kk) (by omega) (by omega))
      rw [List.drop_zero] at HN
      have HTL := Lib.hid htail
      obtain ⟨T, hTT⟩ : ∃ T, nextTk (s.drop a) = T := ⟨_, rfl⟩
      rw [hTT] at hb1 hb2 hb3 hb4 HTL x0 x1 x2 x3 HN
      dsimp only at x0 x1 x2 x3
      clear hcons hget htail hmc hne hCA hTT hsl hinv
      obtain ⟨tk, tt, tb⟩ := T
      dsimp only at hb1 hb2 hb3 hb4 x0 x1 x2 x3 HTL
      simp only [tkV] at HN
      have q1 : ¬ ((a : Int) + tt ≤ a) := by omega
      have q2 : ¬ (tk < 1) := by omega
      have q3 : ¬ (11 < tk) := by omega
      have ws : IntKind.i64.wrap ((a : Int) + tt - a) = (tt : Int) := by rw [IntWalk.i64_in _ (by omega)]; omega
      have l1 : (j : Int) < m := by omega
      go_upto_region 6 with fail
      have B1 : Blk (wr.alloc (.cells #[.int .i64 tk, .int .i64 a, .int .i64 ((a : Int) + tt), .bool tb] 27)) wr.heap.size #[.int .i64 tk, .int .i64 a, .int .i64 ((a : Int) + tt), .bool tb] 27 := Blk.new wr _ _
      have k2 : Kept wr (wr.alloc (.cells #[.int .i64 tk, .int .i64 a, .int .i64 ((a : Int) + tt), .bool tb] 27)) := (Kept.refl wr).alloc _
      change Code.wp _ _ _ _ (wr.alloc (.cells #[.int .i64 tk, .int .i64 a, .int .i64 ((a : Int) + tt), .bool tb] 27))
      generalize wr.alloc (.cells #[.int .i64 tk, .int .i64 a, .int .i64 ((a : Int) + tt), .bool tb] 27) = w2 at B1 k2 ⊢
      generalize wr.heap.size = g1 at B1 ⊢
      have cB := B1.cell
      have e0 : w2.cell? ⟨g1, 0, none⟩ = some (.int .i64 tk) := cB 0
      have e1 : w2.cell? ⟨g1, 1, none⟩ = some (.int .i64 a) := cB 1
      have e2 : w2.cell? ⟨g1, 2, none⟩ = some (.int .i64 ((a : Int) + tt)) := cB 2
      have e3 : w2.cell? ⟨g1, 3, none⟩ = some (.bool tb) := cB 3
      have gl := B1.lt
      clear cB x0 x1 x2 x3
      go_wp2_with fail
      refine (HN.out _ k2).mono ?_
      rintro e w3 ⟨rfl, k3⟩
      have B3 := B1.kept k3
      have cB := B3.cell
      have f0 : w3.cell? ⟨g1, 0, none⟩ = some (.int .i64 tk) := cB 0
      have f1 : w3.cell? ⟨g1, 1, none⟩ = some (.int .i64 a) := cB 1
      have f2 : w3.cell? ⟨g1, 2, none⟩ = some (.int .i64 ((a : Int) + tt)) := cB 2
      have f3 : w3.cell? ⟨g1, 3, none⟩ = some (.bool tb) := cB 3
      have fl := B3.lt
      have K3 := (hkept.trans k2).trans k3
      clear cB e0 e1 e2 e3 gl B1 B3
      go_wp2_with fail
      go_roundw
      case rel => exact ⟨j + 1, a + tt, hlt, by omega, by go_num, by go_num, K3.alloc _, HTL⟩
      case measure =>
        simp [intOf]
        omega
    · have hj' : m - j = 0 := by omega
      have haeq : a = n' := by
        rcases Nat.lt_or_ge a n' with h1 | h1
        · exfalso
          have hne : s.drop a ≠ [] := by
            intro e
            have := congrArg List.length e
            have := HL.out
            simp at *
            omega
          rw [hj', tokF_cons a hne] at hmc
          simp at hmc
        · omega
      subst haeq
      have HAW := Lib.hid lexAwake_any
      clear hmc
      go_wp2_with fail
      refine (HAW.out _).mono ?_
      rintro e w2 ⟨rfl, k2⟩
      go_wp2_with fail
      go_ret
      exact ⟨rfl, (k1.trans hkept).trans k2⟩
end Go.Proofs.Ytmndjkjdblldlaa
